/-
  Texts of this claim, one behind the other: G9, I1, V3, Bulk, I2, I3.
-/
import Derived.Test.YtjecgaiaiophpaaGreatDoorZe
import Derived.Test.YtjecgaiaiophpaaGreatDoorRows
import Derived.ChangeSame
import Derived.ProofKit
import Derived.JoinedCond
set_option linter.all false
set_option maxHeartbeats 16000000
set_option maxRecDepth 8000
namespace Go.Proofs.YtjecgaiaiophpaaGreatDoor
open Go Wk
open Go.RowKit (Below)
attribute [local irreducible] Go.Calls
theorem yR (g:Giv):(zZ g).length=g.tree.length:=by unfold zZ rowsOf;rw [List.length_map,List.length_range]
theorem yS {g:Giv} {i:Nat} (h:i<g.tree.length):(zZ g)[i]? =some (rowOf (nS g) (uD g).2 i):=by unfold zZ rowsOf;rw [List.getElem?_map,List.getElem?_range h];rfl
theorem VY (fails:List Nm) (h:fails.length≤512):qI ⟨awT,awC,fails,[]⟩=0:=tJ.2 ⟨VS,YU,h,Nat.zero_le _⟩
theorem NY (fails:List Nm) (h: ∀x∈fails,x.length≤100000000):Qh ⟨awT,awC,fails,[]⟩:=⟨h,fun x hx=>by cases hx⟩
theorem Ir {w:World}:Calls Tryz.prog 12 #[] w (Ret fun r w'=>r=.bool true∧New w w'):=by
 refine nH Tryz.func12 rfl Tryz.ntmps12 rfl ?_
 (repeat' (first|refine aa1 ?_|refine af ?_|refine ah ?_|refine au ?_|refine ak ?_))
 refine bU (ps:=[(0,.const (vi (-1)))]) (parts:=[(0,vi (-1))]) rfl rfl (by simp [Value.cells]) ?_
 refine bU (ps:=[(0,.const (vs qw)),(1,.const (vs [107,0]))]) (parts:=[(0,vs qw),(1,vs [107,0])]) rfl rfl (by simp [Value.cells]) ?_
 (repeat' (refine aa0 ?_))
 refine bU (ps:=[(0,.const (vs uN)),(1,.tmp 10)]) (parts:=[(0,vs uN),(1,vs cell1)]) rfl rfl (by simp [Value.cells]) ?_
 refine iH (R:=rPr) (N:=2) (ps:=[(0,.tmp 9),(1,.tmp 11)]) (xs:=[(qw,[107,0]),(uN,cell1)]) (us:=[.agg (pC (qw,[107,0])).toArray,.agg (pC (uN,cell1)).toArray]) (Pe:=NoB) rE rfl rfl ⟨rfl,rfl,rfl,rfl,trivial⟩ (by simp) (by simp) fun v1 w1 o1 n1 s1 ob1=>?_
 obtain ⟨a1,c1,rfl,_,_⟩:=o1.form
 refine bU (ps:=[(1,.const (vs uF)),(2,.tmp 12)]) (parts:=[(1,vs uF),(2,.slice a1 2 c1)]) rfl rfl (by simp [Value.cells]) ?_
 refine bU (ps:=[(0,.const (vs qw)),(1,.const (vs [107,0]))]) (parts:=[(0,vs qw),(1,vs [107,0])]) rfl rfl (by simp [Value.cells]) ?_
 (repeat' (refine aa0 ?_))
 refine bU (ps:=[(0,.const (vs [99,108,111,99,107,115])),(1,.tmp 15)]) (parts:=[(0,vs [99,108,111,99,107,115]),(1,vs cell1)]) rfl rfl (by simp [Value.cells]) ?_
 refine iH (R:=rPr) (N:=2) (ps:=[(0,.tmp 14),(1,.tmp 16)]) (xs:=[(qw,[107,0]),([99,108,111,99,107,115],cell1)]) (us:=[.agg (pC (qw,[107,0])).toArray,.agg (pC ([99,108,111,99,107,115],cell1)).toArray]) (Pe:=NoB) rE rfl rfl ⟨rfl,rfl,rfl,rfl,trivial⟩ (by simp) (by simp) fun v2 w2 o2 n2 s2 ob2=>?_
 obtain ⟨a2,c2,rfl,_,_⟩:=o2.form
 refine bU (ps:=[(1,.const (vs [97])),(2,.tmp 17)]) (parts:=[(1,vs [97]),(2,.slice a2 2 c2)]) rfl rfl (by simp [Value.cells]) ?_
 let LT:List (Nd×SV):=[(⟨-1,[],[]⟩,(none,0,0)),(⟨0,uF,[(qw,[107,0]),(uN,cell1)]⟩,(a1,2,c1)),(⟨0,[97],[(qw,[107,0]),([99,108,111,99,107,115],cell1)]⟩,(a2,2,c2))]
 refine iH (R:=flat noV) (N:=3) (ps:=[(0,.tmp 8),(1,.tmp 13),(2,.tmp 18)]) (xs:=LT) (us:=LT.map fun p=>.agg (noV p).toArray) (Pe:=NoB) FY rfl rfl ⟨rfl,rfl,rfl,rfl,rfl,rfl,trivial⟩ (by simp [LT]) (by simp [LT]) fun v3 w3 o3 n3 s3 ob3=>?_
 obtain ⟨a3,c3,rfl,_,_⟩:=o3.form
 have hT:RdS rNd 3 (fun _=>True) w3 (.slice a3 3 c3) awT:=by
  have h1:=(o3.rd (nO noV)).mono (Pb':=fun _=>True) (nO noV) fun _ _ _=>trivial
  refine F6 (R':=rNd) (fun p:Nd×SV=>p.1) h1 fun x hx cs hcs=>⟨svV x.2,hcs,?_⟩
  have n13:=New.trans n2 n3
  simp only [LT,List.mem_cons,List.not_mem_nil,or_false] at hx
  rcases hx with rfl|rfl|rfl
  ·exact eP
  ·exact ((o1.new (nG pC) n13).rd (nO pC)).mono (nO pC) fun _ _ _=>trivial
  ·exact ((o2.new (nG pC) n3).rd (nO pC)).mono (nO pC) fun _ _ _=>trivial
 (repeat' (first|refine aa1 ?_|refine af ?_|refine ah ?_|refine au ?_|refine ak ?_))
 refine bY (R:=Wk.one vs) (Pe:=NoB) (y:=[107]) qR rfl rfl rfl rfl (by omega) (by omega) fun v4 w4 o4 n4 s4 e4=>?_
 obtain ⟨a4,c4,rfl,_,_⟩:=o4.form
 refine bU (ps:=[(0,.const (vs [107])),(1,.const (vs [102])),(2,.const (.int .u8 1)),(3,.tmp 20),(6,.const (.int .i16 (-1)))]) (parts:=[(0,vs [107]),(1,vs [102]),(2,.int .u8 1),(3,.slice a4 1 c4),(6,.int .i16 (-1))]) rfl rfl (by simp [Value.cells]) ?_
 refine bY (R:=flat cdV) (Pe:=NoB) (y:=(⟨[107],[102],1,[[107]],0,[], -1⟩,(a4,1,c4))) FZ rfl rfl rfl rfl (by omega) (by omega) fun v5 w5 o5 n5 s5 e5=>?_
 obtain ⟨a5,c5,rfl,_,_⟩:=o5.form
 have hC:RdS rCd 7 (fun _=>True) w5 (.slice a5 1 c5) awC:=by
  have h1:=(o5.rd (nO cdV)).mono (Pb':=fun _=>True) (nO cdV) fun _ _ _=>trivial
  refine F6 (R':=rCd) (fun p:Cd×SV=>p.1) h1 fun x hx cs hcs=>⟨svV x.2,hcs,?_⟩
  simp only [List.mem_cons,List.not_mem_nil,or_false] at hx
  subst hx
  exact ((o4.new (nK _) n5).rd qR.mo).mono (nX _) fun _ _ _=>trivial
 have n35:=New.trans n4 n5
 have n05:=New.trans n1 (New.trans n2 (New.trans n3 n35))
 have r5:RdG (fun _=>True) w5 ⟨awT,awC,[],[]⟩ (.slice a3 3 c3) (.slice a5 1 c5) (.slice none 0 0) (.slice none 0 0):=⟨hT.keep nY n35.keep,hC,eP,eP⟩
 clear o1 o2 o3 o4 o5 hT hC n1 n2 n3 n4 n5 n35
 (repeat' (first|refine aa0 ?_|refine aa1 ?_|refine af ?_|refine ah ?_|refine au ?_|refine ak ?_))
 refine bU (ps:=[(0,.tmp 24),(1,.tmp 25)]) (parts:=[(0,.slice a3 3 c3),(1,.slice a5 1 c5)]) rfl rfl (by simp [Value.cells]) ?_
 refine aB (Bz r5 (NY [] (by simp))) rfl ?_
 rintro _ w6 ⟨hr,n6⟩
 unfold xq at hr
 rw [if_pos (VY [] (by simp))] at hr
 obtain ⟨ra,rb,rc,rd,rfl,hR⟩:=hr
 obtain ⟨⟨p1,q1,rfl⟩,⟨p2,q2,rfl⟩,⟨p3,q3,rfl⟩,⟨p4,q4,rfl⟩⟩:=hR.form
 (repeat' (first|refine aa0 ?_|refine pI ?_))
 refine Wl.alloc fun w7 b7 n7 s7=>?_
 refine aV (new:=[.slice p1 _ q1,.slice p2 _ q2,.slice p3 _ q3,.slice p4 _ q4]) b7 rfl rfl rfl rfl (show (4:Nat)≤4 from Nat.le_refl 4) (by intro c hc;simp at hc;rcases hc with rfl|rfl|rfl|rfl<;>rfl) fun w8 b8 c8 s8=>?_
 have n68:New w6 w8:=(Chg.trans n7.any c8 fun _ _ e=>e).toNew fun k hk e=>by omega
 clear b7 n7 c8
 have n58:=New.trans n6 n68
 have hR8:=hR.new n68
 (repeat' (first|refine aa0 ?_|refine aa1 ?_|refine af ?_|refine ah ?_|refine au ?_|refine ak ?_))
 refine bY (R:=Wk.one vs) (Pe:=NoB) (y:=47::uF) qR rfl rfl rfl rfl (by omega) (by omega) fun v9 w9 o9 n9 s9 e9=>?_
 obtain ⟨a9,c9,rfl,_,_⟩:=o9.form
 have r9:RdG (fun _=>True) w9 ⟨awT,awC,[47::uF],[]⟩ (.slice a3 3 c3) (.slice a5 1 c5) (.slice a9 1 c9) (.slice none 0 0):=
  ⟨r5.t.keep nY (New.trans n58 n9).keep,r5.c.keep pO (New.trans n58 n9).keep,(o9.rd qR.mo).mono (nX _) fun _ _ _=>trivial,eP⟩
 refine bU (ps:=[(0,.tmp 31),(1,.tmp 32),(2,.tmp 33)]) (parts:=[(0,.slice a3 3 c3),(1,.slice a5 1 c5),(2,.slice a9 1 c9)]) rfl rfl (by simp [Value.cells]) ?_
 refine aB (Bz r9 (NY [47::uF] (by intro x hx;rw [List.mem_singleton.1 hx];decide))) rfl ?_
 rintro _ w10 ⟨hs,n10⟩
 unfold xq at hs
 rw [if_pos (VY [47::uF] (by simp))] at hs
 obtain ⟨sa,sb,sc,sd,rfl,hS⟩:=hs
 obtain ⟨⟨t1,u1,rfl⟩,⟨t2,u2,rfl⟩,⟨t3,u3,rfl⟩,⟨t4,u4,rfl⟩⟩:=hS.form
 (repeat' (first|refine aa0 ?_|refine pI ?_))
 refine Wl.alloc fun w11 b11 n11 s11=>?_
 refine aV (new:=[.slice t1 _ u1,.slice t2 _ u2,.slice t3 _ u3,.slice t4 _ u4]) b11 rfl rfl rfl rfl (show (4:Nat)≤4 from Nat.le_refl 4) (by intro c hc;simp at hc;rcases hc with rfl|rfl|rfl|rfl<;>rfl) fun w12 b12 c12 s12=>?_
 have Jp:New w10 w12:=(Chg.trans n11.any c12 fun _ _ e=>e).toNew fun k hk e=>by omega
 clear b11 n11 c12
 have XD:=New.trans n9 (New.trans n10 Jp)
 have b8':=b8.chg XD fun e=>e
 have hR':=hR8.new XD
 have hS':=hS.new Jp
 have afB:=New.trans n05 (New.trans n58 XD)
 clear r5 r9 o9 hR hS hR8 b8 n6 n9 n10 n68 n58 XD Jp n05
 have lR:(zZ ⟨awT,awC,[],[]⟩).length=3:=yR _
 have lS:(zZ ⟨awT,awC,[47::uF],[]⟩).length=3:=yR _
 have gR:=yS (g:=⟨awT,awC,[],[]⟩) (i:=2) (by show 2<3;omega)
 have gS1:=yS (g:=⟨awT,awC,[47::uF],[]⟩) (i:=1) (by show 1<3;omega)
 have gS2:=yS (g:=⟨awT,awC,[47::uF],[]⟩) (i:=2) (by show 2<3;omega)
 have hR2:(rowOf (nS ⟨awT,awC,[],[]⟩) (uD ⟨awT,awC,[],[]⟩).2 2).1=0:=by
  show (rowOf (nS ⟨awT,awC,[],[]⟩) (sO (nS ⟨awT,awC,[],[]⟩) _ 3).2 2).1=0
  rw [VW];exact XB (by rfl) (by rfl)
 have hSS:(uD ⟨awT,awC,[47::uF],[]⟩).1.length=2∧(rowOf (nS ⟨awT,awC,[47::uF],[]⟩) (uD ⟨awT,awC,[47::uF],[]⟩).2 1).1=7∧rowOf (nS ⟨awT,awC,[47::uF],[]⟩) (uD ⟨awT,awC,[47::uF],[]⟩).2 2=(8,some 0,1):=by
  show (sO (nS ⟨awT,awC,[47::uF],[]⟩) _ 3).1.length=2∧(rowOf (nS ⟨awT,awC,[47::uF],[]⟩) (sO (nS ⟨awT,awC,[47::uF],[]⟩) _ 3).2 1).1=7∧rowOf (nS ⟨awT,awC,[47::uF],[]⟩) (sO (nS ⟨awT,awC,[47::uF],[]⟩) _ 3).2 2=(8,some 0,1)
  rw [VW];exact XC (by decide+kernel) (by decide+kernel)
 obtain ⟨hS1,hS2,hS3⟩:=hSS
 rw [hS3] at gS2
 generalize rowOf (nS ⟨awT,awC,[],[]⟩) (uD ⟨awT,awC,[],[]⟩).2 2=x1 at*
 generalize rowOf (nS ⟨awT,awC,[47::uF],[]⟩) (uD ⟨awT,awC,[47::uF],[]⟩).2 1=x2 at*
 have oR:=hR'.rows.rd (nO _)
 have oS:=hS'.rows.rd (nO _)
 clear hR' hS'
 generalize zZ ⟨awT,awC,[],[]⟩=R1 at*
 generalize zZ ⟨awT,awC,[47::uF],[]⟩=R2 at*
 generalize (uD ⟨awT,awC,[47::uF],[]⟩).1=E2 at*
 (repeat' (first|refine aa0 ?_|refine aa1 ?_|refine af ?_|refine aa6 ?_|refine pU ?_|refine ah ?_|refine au ?_|refine ak ?_|refine aa5 ?_|(refine cO rfl rfl (fun _=>?_) (fun _=>?_)<;>(first|(exfalso;omega)|skip))))
 refine ay (u:=.slice p1 R1.length q1) rfl (b8'.cell (o:=0) rfl) ?_
 (repeat' (first|refine aa0 ?_|refine aa6 ?_|refine pU ?_|refine aI rfl ?_|refine aa5 ?_|(refine cO rfl rfl (fun _=>?_) (fun _=>?_)<;>(first|(exfalso;omega)|skip))))
 refine ay (u:=.slice t1 R2.length u1) rfl (b12.cell (o:=0) rfl) ?_
 (repeat' (first|refine aa0 ?_|refine aa6 ?_|refine pU ?_|refine aI rfl ?_|refine aa5 ?_|(refine cO rfl rfl (fun _=>?_) (fun _=>?_)<;>(first|(exfalso;omega)|skip))))
 refine ay (u:=.slice p1 R1.length q1) rfl (b8'.cell (o:=0) rfl) ?_
 (repeat' (refine aa6 ?_))
 refine aZ oR rfl rfl (by omega) gR fun b o cs hl hR hat=>?_
 obtain rfl:cs=rwC _:=hR
 (repeat' (first|refine aa6 ?_|refine aa5 ?_))
 refine ay (u:=.int .u8 x1.1) rfl (hat.get 0 rfl) ?_
 clear hat
 (repeat' (first|refine aa0 ?_|refine aa6 ?_|refine pU ?_|refine aa5 ?_|(refine cO rfl rfl (fun _=>?_) (fun _=>?_)<;>(first|(exfalso;omega)|skip))))
 refine ay (u:=.slice t1 R2.length u1) rfl (b12.cell (o:=0) rfl) ?_
 (repeat' (refine aa6 ?_))
 refine aZ oS rfl rfl (by omega) gS1 fun b o cs hl hR hat=>?_
 obtain rfl:cs=rwC _:=hR
 (repeat' (first|refine aa6 ?_|refine aa5 ?_))
 refine ay (u:=.int .u8 x2.1) rfl (hat.get 0 rfl) ?_
 clear hat
 (repeat' (first|refine aa0 ?_|refine aa6 ?_|refine pU ?_|refine aa5 ?_|(refine cO rfl rfl (fun _=>?_) (fun _=>?_)<;>(first|(exfalso;omega)|skip))))
 refine ay (u:=.slice t1 R2.length u1) rfl (b12.cell (o:=0) rfl) ?_
 (repeat' (refine aa6 ?_))
 refine aZ oS rfl rfl (by omega) gS2 fun b o cs hl hR hat=>?_
 obtain rfl:cs=rwC _:=hR
 (repeat' (first|refine aa6 ?_|refine aa5 ?_))
 refine ay (u:=.int .u8 8) rfl (hat.get 0 rfl) ?_
 clear hat
 (repeat' (first|refine aa0 ?_|refine aa6 ?_|refine pU ?_|refine aa5 ?_|(refine cO rfl rfl (fun _=>?_) (fun _=>?_)<;>(first|(exfalso;omega)|skip))))
 refine ay (u:=.slice t1 R2.length u1) rfl (b12.cell (o:=0) rfl) ?_
 (repeat' (refine aa6 ?_))
 refine aZ oS rfl rfl (by omega) gS2 fun b o cs hl hR hat=>?_
 obtain rfl:cs=rwC _:=hR
 (repeat' (first|refine aa6 ?_|refine aa5 ?_))
 refine ay (u:=vi 1) rfl (hat.get 2 rfl) ?_
 clear hat
 (repeat' (first|refine aa0 ?_|refine aa6 ?_|refine pU ?_|refine aa5 ?_|(refine cO rfl rfl (fun _=>?_) (fun _=>?_)<;>(first|(exfalso;omega)|skip))))
 refine ay (u:=.slice t2 E2.length u2) rfl (b12.cell (o:=1) rfl) ?_
 (repeat' (first|refine aa1 ?_|refine af ?_|refine aa6 ?_|refine pU ?_|refine aI rfl ?_|refine ah ?_|refine aA ?_|(refine cO rfl rfl (fun _=>?_) (fun _=>?_)<;>(first|(exfalso;omega)|skip))))
 exact aF rfl rfl ⟨_,rfl,rfl,afB⟩
end Go.Proofs.YtjecgaiaiophpaaGreatDoor
namespace Go.Proofs.YtjecgaiaiophpaaGreatDoor
open Go Wk
open Go.RowKit (Below)
attribute [local irreducible] Go.Calls
theorem aaP (a:Int) {n:Nat} (h:0<n): ∃k:Nat,k<n∧(a.tmod n+n).tmod n=k:=by
 have hn:(0:Int)<n:=by omega
 have h1:=Int.lt_tmod_of_pos a hn
 have h2:=Int.tmod_lt_of_pos a hn
 have h3:0≤a.tmod n+n:=by omega
 have h4:=Int.tmod_nonneg (n:Int) h3
 have h5:=Int.tmod_lt_of_pos (a.tmod n+n) hn
 exact ⟨((a.tmod n+n).tmod n).toNat,by omega,by omega⟩
theorem xq.form {g:Giv} {lo:Nat} {r:Value} {w':World} (h:xq g lo r w'): ∃p1 l1 q1 p2 l2 q2 p3 l3 q3 p4 l4 q4,r=.tuple #[.agg #[.slice p1 l1 q1,.slice p2 l2 q2,.slice p3 l3 q3,.slice p4 l4 q4],vi (qI g)]∧
 (qI g=0→RdR (fun b=>lo≤b) w' (zZ g) (uD g).1 (Rk g).1 (Rk g).2 (.slice p1 l1 q1) (.slice p2 l2 q2) (.slice p3 l3 q3) (.slice p4 l4 q4))∧(qI g=0→l1=g.tree.length)∧(qI g≠0→l1=0):=by
 unfold xq at h
 by_cases he:qI g=0
 ·rw [if_pos he] at h
  obtain ⟨a,b,c,d,rfl,hR⟩:=h
  obtain ⟨⟨p1,q1,rfl⟩,⟨p2,q2,rfl⟩,⟨p3,q3,rfl⟩,⟨p4,q4,rfl⟩⟩:=hR.form
  exact ⟨p1,_,q1,p2,_,q2,p3,_,q3,p4,_,q4,by rw [he],fun _=>hR,fun _=>yR g,fun e=>absurd he e⟩
 ·rw [if_neg he] at h
  exact ⟨none,0,0,none,0,0,none,0,0,none,0,0,h,fun e=>absurd e he,fun e=>absurd e he,fun _=>rfl⟩
theorem sl4 {p1 p2 p3 p4:Option Addr} {l1 q1 l2 q2 l3 q3 l4 q4:Nat}: ∀x∈([.slice p1 l1 q1,.slice p2 l2 q2,.slice p3 l3 q3,.slice p4 l4 q4]:List Value),x.oneCell'=true:=by
 intro x hx
 simp at hx
 rcases hx with rfl|rfl|rfl|rfl<;>rfl
end Go.Proofs.YtjecgaiaiophpaaGreatDoor
namespace Go.Proofs.YtjecgaiaiophpaaGreatDoor
open Go Wk
open Go.RowKit (Below)
attribute [local irreducible] Go.Calls
theorem Ql {Pb:Nat→Prop} {w w':World} {g:Giv} {tv fv gv:Value} {ya:Option Addr} {yc:Nat} {L L':List (Cd×SV)}
 (ht: ∃(a:Option Addr) (cap:Nat) (LT:List (Nd×SV)),tv=.slice a g.tree.length cap∧LT.map (·.1)=g.tree∧nN (flat noV) 51 3 Pb NoB w (.slice a (g.tree.length+1) cap) (LT++ [mkN])∧ ∀p∈LT,tX Pb w p.2 p.1.nZ)
 (oC:nN (flat cdV) 69 7 Pb NoB w (.slice ya (g.cards.length+1) yc) (L++ [mkC])) (hPC: ∀p∈L,rM Pb w (svV p.2) p.1.compat) (hf:rM Pb w fv g.fails) (hg:rM Pb w gv g.gone)
 (hL:L.map (·.1)=g.cards) (hp:L'.Perm L) (oC':nN (flat cdV) 69 7 Pb NoB w' (.slice ya (g.cards.length+1) yc) (L'++ [mkC])) (c:Chg (fun k=>(Value.slice ya (g.cards.length+1) yc).ownBlock=some k) w w'):
 Xy Pb w' (g.with (L'.map (·.1))) tv (.slice ya g.cards.length yc) fv gv:=by
 obtain ⟨a,cap,LT,e,hLT,oT,hPT⟩:=ht
 have hl:(L'.map (·.1)).length=g.cards.length:=by rw [←hL,List.length_map,List.length_map,hp.length_eq]
 refine ⟨⟨a,cap,LT,e,hLT,oT.chg (nG _) c fun k hk e=>oT.tZ oC rfl k hk e,fun p hp=>(hPT p hp).row oC rfl c⟩,⟨ya,yc,L',?_,rfl,?_,fun p hpm=>(hPC p (hp.mem_iff.1 hpm)).row oC rfl c⟩,hf.row oC rfl c,hg.row oC rfl c⟩
 ·show Value.slice ya g.cards.length yc=.slice ya (L'.map (·.1)).length yc
  rw [hl]
 ·show nN _ _ _ _ _ _ (.slice ya ((L'.map (·.1)).length+1) yc) _
  rw [hl];exact oC'
def XE (j:Nat):Bool:=decide (3≤j∧j≤5∨16≤j)
section
variable {Pg Pp:Nat→Prop} {w:World} {g:Giv} {tv cv fv gv pv:Value} {ps:List Int} {turn:Int}
theorem TK (r:RdG Pg w g tv cv fv gv) (z:SzG g) (sh:Qh g) (rp:RdS (Wk.one fun x:Int=>.int .u8 x) 1 Pp w pv ps) (hp: ∀x∈ps,0≤x∧x<256) (hpl:ps.length≤1048576):
 Calls Tryz.prog 5 #[.agg #[tv,cv,fv,gv],pv,vi turn] w (Ret fun v w'=>v=.bool true∧New w w'):=by
 obtain ⟨ta,tc,rfl,_,_⟩:=r.t.form
 obtain ⟨ca,cc,rfl,_,_⟩:=r.c.form
 obtain ⟨fa,fc,rfl,_,_⟩:=r.f.form
 obtain ⟨ga,gc,rfl,_,_⟩:=r.g.form
 obtain ⟨pa,pc,rfl,_,_⟩:=rp.form
 refine nH Tryz.func5 rfl Tryz.ntmps5 rfl ?_
 (repeat' (first|refine au ?_|refine ak ?_))
 refine bI rfl fun w1 b1 n1 s1=>?_
 replace b1:Bk w1 w.heap.size 26 [.slice ta g.tree.length tc,.slice ca g.cards.length cc,.slice fa g.fails.length fc,.slice ga g.gone.length gc]:=b1
 (repeat' (first|refine aa1 ?_|refine af ?_|refine ah ?_|refine au ?_|refine ak ?_))
 refine bM b1 rfl rfl ?_
 refine aB (NU (RdG.keep r n1.keep pO) z) rfl ?_
 rintro _ w2 ⟨⟨xt,xc,xf,xg,rfl,ox⟩,n2⟩
 have rx:=ox.rd
 obtain ⟨xta,xtc,rfl,_,_⟩:=rx.t.form
 obtain ⟨xca,xcc,rfl,_,_⟩:=rx.c.form
 obtain ⟨xfa,xfc,rfl,_,_⟩:=rx.f.form
 obtain ⟨xga,xgc,rfl,_,_⟩:=rx.g.form
 refine Wl.alloc fun w3 b3 n3 s3=>?_
 refine aV (new:=[.slice xta g.tree.length xtc,.slice xca g.cards.length xcc,.slice xfa g.fails.length xfc,.slice xga g.gone.length xgc]) b3 rfl rfl rfl rfl (show (4:Nat)≤4 from Nat.le_refl 4) sl4 fun w4 b4 c4 s4=>?_
 have n24:New w2 w4:=(Chg.trans n3.any c4 fun _ _ e=>e).toNew fun k hk e=>by omega
 clear b3 n3 c4 ox
 have n04:=New.trans n1 (New.trans n2 n24)
 have b14:=b1.chg (New.trans n2 n24) fun e=>e
 have rx4:=rx.keep n24.keep pO
 clear rx
 (repeat' (first|refine af ?_|refine ah ?_|refine au ?_|refine ak ?_))
 refine bM b4 rfl rfl ?_
 refine aB (Bz rx4 sh) rfl ?_
 rintro _ w5 ⟨hr,n5⟩
 obtain ⟨p1,l1,q1,p2,l2,q2,p3,l3,q3,p4,l4,q4,rfl,hR,hl1,hl0⟩:=hr.form
 (repeat' (first|refine aa0 ?_|refine pI ?_))
 refine Wl.alloc fun w6 b6 n6 s6=>?_
 refine aV (new:=[.slice p1 l1 q1,.slice p2 l2 q2,.slice p3 l3 q3,.slice p4 l4 q4]) b6 rfl rfl rfl rfl (show (4:Nat)≤4 from Nat.le_refl 4) sl4 fun w7 b7 c7 s7=>?_
 have n57:New w5 w7:=(Chg.trans n6.any c7 fun _ _ e=>e).toNew fun k hk e=>by omega
 clear b6 n6 c7
 have n47:=New.trans n5 n57
 have n07:=New.trans n04 n47
 have b17:=b14.chg n47 fun e=>e
 have b47:=b4.chg n47 fun e=>e
 have rx7:=rx4.keep n47.keep pO
 have hR7:=fun e=>((hR e).new n57).mono (Pb':=fun b=>b<w7.heap.size) fun b hb _=>hb
 clear hR b14 b4 rx4 b1 n1 n2 n24
 generalize hb8:w5.heap.size=b8 at*
 generalize hb4:w2.heap.size=xb at*
 (repeat' (first|refine aa1 ?_|refine af ?_|refine ah ?_|refine au ?_|refine ak ?_))
 refine bM b47 rfl rfl ?_
 refine aB (Io rx7 sh.f sh.g) rfl ?_
 rintro _ w8 ⟨hN,n8⟩
 have n08:=New.trans n07 n8
 have b18:=b17.chg n8 fun e=>e
 have b48:=b47.chg n8 fun e=>e
 have b78:=b7.chg n8 fun e=>e
 by_cases he:qI g=0
 ·rw [if_pos he] at hN
  obtain ⟨bw,bm,N,fl,nv,ov,rfl,g0,hNl,hNb,hNs,hfl⟩:=hN
  have hok:=(tJ.1 he).1
  have hR8:=(hR7 he).new n8
  have hl:=hl1 he
  subst hl
  rw [he]
  (repeat' (first|refine aa0 ?_|refine aa1 ?_|refine af ?_|refine pI ?_|refine ah ?_))
  refine au ?_
  skip
  refine au ?_
  (repeat' (first|refine aa0 ?_|refine aa6 ?_|refine ak ?_|(refine pV (fun _=>?_) (fun _=>?_)<;>(first|(exfalso;omega)|skip))))
  refine gU rfl rfl ?_
  (repeat' (first|refine aa0 ?_|refine aa6 ?_|(refine pV (fun _=>?_) (fun _=>?_)<;>(first|(exfalso;omega)|skip))))
  refine jX rfl rfl ?_
  (repeat' (first|refine af ?_|refine pJ ?_|refine ah ?_|refine Wc.skip ?_|refine aa4 ?_))
  refine au ?_
  skip
  refine au ?_
  (repeat' (first|refine aa0 ?_|refine af ?_|refine ah ?_|refine ak ?_|refine Wc.skip ?_|refine aa4 ?_|(refine pV (fun _=>?_) (fun _=>?_)<;>(first|(exfalso;omega)|skip))))
  refine dS (fun F W=> ∃N':List Nb,agrees F [(2,vi turn),(3,pT w.heap.size),(7,pT xb),(8,pT b8),(10,pT bw)]∧WkM (fun b=>w7.heap.size≤b) bw bm N' (oV (nS g) g.tree.length) fl nv ov W∧N'.length=N.length∧bnF N'=nS g∧Vld (nS g) g.fails.contains (stF N')∧rJ (nS g) (stF N') (oV (nS g) g.tree.length)=[]∧Chg (fun k=>nv.ownBlock=some k) w8 W) ?_ ?_
  ·have Ig: ∀k,nv.ownBlock=some k→w7.heap.size≤k:=fun k hk=>(g0.nd.row.lt hk).1
   have hol:=AX (nS g) g.tree.length
   have htl:=pz hok
   have afC:flF fl=g.fails.contains:=funext hfl
   have aaQ:stF N=S0:=funext hNs
   have hop0:zX (stF N) (oV (nS g) g.tree.length)+0≤g.tree.length:=by
    have:zX (stF N) (oV (nS g) g.tree.length)≤(oV (nS g) g.tree.length).length:=by unfold zX;exact List.length_filter_le _ _
    omega
   (repeat' (first|refine aa1 ?_|refine af ?_|refine ah ?_|refine au ?_|refine ak ?_|refine Wc.block ?_))
   refine aS (σ:=Nat×List Nb) (fun q=>[(1,.slice pa ps.length pc),(2,vi turn),(3,pT w.heap.size),(7,pT xb),(8,pT b8),(10,pT bw),(12,vi q.1)])
    (fun q W=>WkM (fun b=>w7.heap.size≤b) bw bm q.2 (oV (nS g) g.tree.length) fl nv ov W∧q.2.length=N.length∧bnF q.2=nS g∧Vld (nS g) g.fails.contains (stF q.2)∧zX (stF q.2) (oV (nS g) g.tree.length)+q.1≤g.tree.length∧Chg (fun k=>nv.ownBlock=some k) w8 W) (fun q=>g.tree.length+1-q.1) (0,N)
    ⟨rfl,rfl,rfl,rfl,rfl,rfl,rfl,trivial⟩ ⟨g0,rfl,hNb,aaQ▸aav,hop0,aQ _ _⟩ ?_
   rintro ⟨k,N1⟩ G W ⟨g1,XF,hb1,hv1,ho1,cW⟩
   dsimp only at g1 XF hb1 hv1 ho1 cW
   simp only [oP]
   have n8W: ∀(T:TypeId) (cs:List Value) (b:Nat),Bk w8 b T cs→b<w7.heap.size→Bk W b T cs:=fun T cs b hb h=>hb.chg cW fun e=>by have:=Ig b e;omega
   have hw0:=n08.size
   have hw7:=b17.lt
   have b1W:=n8W _ _ _ b18 b17.lt
   (repeat' (first|refine aa0 ?_|refine au ?_|refine ak ?_|refine aa5 ?_))
   refine ay (u:=.slice ta g.tree.length tc) rfl (b1W.cell (o:=0) rfl) ?_
   (repeat' (first|refine aa0 ?_|refine af ?_|refine aI rfl ?_|refine ah ?_|refine au ?_|refine ak ?_|refine Wc.block ?_|refine Wc.skip ?_|refine aa3 ?_|(refine dN rfl rfl (fun _=>?_) (fun _=>?_)<;>(first|(exfalso;omega)|skip))))
   ·have hwl:=XF
    refine aB (Ih g1 (fun i hi=>by rw [XF,hNl];exact (xN.1 hi).1) (fun i=>hv1.le i) (by omega)) rfl ?_
    rintro lv W2 ⟨oR,nR⟩
    rw [hb1] at oR
    obtain ⟨ra,rc,rfl,ait,aiu⟩:=oR.form
    have g2:=g1.new nR
    have cW2:=Chg.trans cW nR.any fun _ _ e=>e
    (repeat' (first|refine aa1 ?_|refine af ?_|refine ah ?_))
    refine au ?_
    skip
    refine au ?_
    (repeat' (first|refine aa0 ?_|refine af ?_|refine aI rfl ?_|refine ah ?_|refine ak ?_|refine Wc.skip ?_|refine aK ?_|refine aN ?_|refine aJ ?_|refine iM rfl ?_|refine aP ?_|refine aa3 ?_|refine aa4 ?_|refine cO rfl rfl (fun _=>?_) (fun _=>?_)))
    ·have hnil:rJ (nS g) (stF N1) (oV (nS g) g.tree.length)=[]:=List.eq_nil_of_length_eq_zero (by omega)
     exact cZ ⟨N1,⟨rfl,rfl,rfl,rfl,rfl,trivial⟩,g2,XF,hb1,hv1,hnil,cW2⟩
    ·refine au ?_
     (repeat' (first|refine aa1 ?_|refine af ?_|refine ah ?_|refine ak ?_))
     have hrl:(rJ (nS g) (stF N1) (oV (nS g) g.tree.length)).length≤512:=by
      have:=List.length_filter_le (fun i=>(stF N1 i == 0)&&(qM (nS g) (stF N1) i).isNone) (oV (nS g) g.tree.length)
      unfold rJ;omega
     generalize afD:rJ (nS g) (stF N1) (oV (nS g) g.tree.length)=rdy at*
     refine dS (fun F W=> ∃j:Nat,j<rdy.length∧agrees F [(1,.slice pa ps.length pc),(2,vi turn),(3,pT w.heap.size),(7,pT xb),(8,pT b8),(10,pT bw),(12,vi k),(13,.slice ra rdy.length rc),(14,vi j)]∧New W2 W) ?_ ?_
     ·(repeat' (first|refine aa0 ?_|refine af ?_|refine aI rfl ?_|refine ah ?_|refine au ?_|refine ak ?_|refine Wc.skip ?_|refine aa3 ?_|refine aa4 ?_|refine pF (fun _=>?_) (fun _=>?_)))
      ·obtain ⟨x,hx⟩:=nP ps (k:=k) (by omega)
       have hxb:=hp x (List.mem_of_getElem? hx)
       have rpW:=((rp.mono (Pb':=fun b=>b<w.heap.size) (nX _) fun b hb _=>hb).keep (nV _) n08.keep).keep (nV _) (cW2.keep fun b _ hb e=>by have hb:b<w.heap.size:=hb;have:=Ig b e;omega)
       have hn:(0:Int)<rdy.length:=by omega
       refine bT rpW rfl rfl (by omega) (by rw [Int.toNat_natCast];exact hx) fun b o hcell=>?_
       refine ay (u:=.int .u8 x) rfl hcell ?_
       (repeat' (first|refine aa0 ?_|refine aI rfl ?_|refine dH rfl ?_))
       refine jk rfl rfl (by omega) ?_
       rw [show IntKind.i64.wrap x=x from Wk.wJ (by omega) (by omega)]
       obtain ⟨j,hj,ej⟩: ∃j:Nat,j<rdy.length∧x.tmod rdy.length=j:=by
        have h1:=Int.tmod_nonneg (rdy.length:Int) hxb.1
        have h2:=Int.tmod_lt_of_pos x hn
        exact ⟨(x.tmod rdy.length).toNat,by omega,by omega⟩
       rw [ej]
       (repeat' (first|refine aa1 ?_|refine af ?_))
       exact cZ ⟨j,hj,⟨rfl,rfl,rfl,rfl,rfl,rfl,rfl,rfl,rfl,trivial⟩,aQ _ _⟩
      ·exact cZ ⟨0,by omega,⟨rfl,rfl,rfl,rfl,rfl,rfl,rfl,rfl,rfl,trivial⟩,aQ _ _⟩
     ·rintro F3 W3 ⟨j,hj,hF3,n3⟩
      rw [←oK hF3]
      simp only [oP]
      clear hF3
      obtain ⟨i,hi⟩:=nP rdy hj
      have him:=List.mem_of_getElem? hi
      rw [←afD] at him
      have hio:=Dc.1 him
      have afE:=xN.1 hio.1
      obtain ⟨S',hS',hrow⟩:=PX (fl:=g.fails.contains) him afE.2
      have g3:=g2.new n3
      have oR3:=(oR.new (nK _) n3).rd (nX _)
      (repeat' (first|refine aa0 ?_|refine au ?_|refine ak ?_))
      refine bT oR3 rfl rfl (by omega) (by rw [Int.toNat_natCast];exact hi) fun b o hcell=>?_
      refine ay (u:=vi i) rfl hcell ?_
      refine aB (Vy g3 (i:=i) (by omega) (hv1.le i)) rfl ?_
      rintro _ W4 ⟨N2,rfl,g4,hl4,aaR,hs4,c4⟩
      rw [hb1] at aaR hs4
      rw [afC,hS',Option.getD_some] at hs4
      rw [hb1,hs4]
      (repeat' (first|refine aa0 ?_|refine pI ?_))
      refine Wl.alloc fun w5 b5 n5 s5=>?_
      refine aV (new:=rwC (rowOf (nS g) S' i)) b5 rfl rfl rfl rfl (show (3:Nat)≤3 from Nat.le_refl 3) (by intro c hc;simp at hc;rcases hc with rfl|rfl|rfl<;>rfl) fun w6 b6 c6 s6=>?_
      have n46:New W4 w6:=(Chg.trans n5.any c6 fun _ _ e=>e).toNew fun k hk e=>by omega
      replace b6:Bk w6 W4.heap.size 39 (rwC (rowOf (nS g) S' i)):=b6
      have hv2:Vld (nS g) g.fails.contains (stF N2):=by rw [hs4];exact hv1.look hS'
      have hk4:=Fv hS'
      have afF:=Nz (l:=oV (nS g) g.tree.length) hk4.2.2.1 hio.1 hk4.1 hk4.2.1
      rw [←hs4] at afF
      have fin:WkM (fun b=>w7.heap.size≤b) bw bm N2 (oV (nS g) g.tree.length) fl nv ov w6∧N2.length=N.length∧bnF N2=nS g∧Vld (nS g) g.fails.contains (stF N2)∧zX (stF N2) (oV (nS g) g.tree.length)+(k+1)≤g.tree.length∧Chg (fun k=>nv.ownBlock=some k) w8 w6:=⟨g4.new n46,by omega,aaR,hv2,by omega,Chg.trans (Chg.trans (Chg.trans cW2 n3.any fun _ _ e=>e) c4 fun _ _ e=>e) n46.any fun _ _ e=>e⟩
      have b6c: ∀r,(rowOf (nS g) S' i).1=r→w6.cell? ⟨W4.heap.size,0,none⟩=some (.int .u8 r):=fun r e=>by rw [←e];exact b6.cell (o:=0) rfl
      rcases hrow with hrow|hrow
      ·have b6c:=b6c _ hrow
       (repeat' (first|refine aa0 ?_|refine aa1 ?_|refine af ?_|refine aa6 ?_|refine ah ?_|refine au ?_|refine ak ?_|refine aa5 ?_|(refine pV (fun _=>?_) (fun _=>?_)<;>(first|(exfalso;omega)|skip))))
       refine ay (u:=.int .u8 (0:Nat)) rfl b6c ?_
       (repeat' (first|refine aa0 ?_|refine aa1 ?_|refine af ?_|refine aa6 ?_|refine qo ?_|refine pJ ?_|refine ah ?_|refine ak ?_|refine Wc.skip ?_|refine aH ?_|refine aa4 ?_|refine aa8 ?_|(refine pV (fun _=>?_) (fun _=>?_)<;>(first|(exfalso;omega)|skip))))
       exact aG (k+1,N2) ⟨rfl,rfl,rfl,rfl,rfl,rfl,rfl,trivial⟩ fin (by dsimp only;omega)
      ·have b6c:=b6c _ hrow
       (repeat' (first|refine aa0 ?_|refine aa1 ?_|refine af ?_|refine aa6 ?_|refine ah ?_|refine au ?_|refine ak ?_|refine aa5 ?_|(refine pV (fun _=>?_) (fun _=>?_)<;>(first|(exfalso;omega)|skip))))
       refine ay (u:=.int .u8 (7:Nat)) rfl b6c ?_
       (repeat' (first|refine aa0 ?_|refine aa6 ?_|refine aa5 ?_|(refine pV (fun _=>?_) (fun _=>?_)<;>(first|(exfalso;omega)|skip))))
       refine ay (u:=.int .u8 (7:Nat)) rfl b6c ?_
       (repeat' (first|refine aa0 ?_|refine aa1 ?_|refine af ?_|refine aa6 ?_|refine pU ?_|refine pJ ?_|refine ah ?_|refine ak ?_|refine Wc.skip ?_|refine aH ?_|refine aa4 ?_|refine aa8 ?_|(refine pV (fun _=>?_) (fun _=>?_)<;>(first|(exfalso;omega)|skip))))
       exact aG (k+1,N2) ⟨rfl,rfl,rfl,rfl,rfl,rfl,rfl,trivial⟩ fin (by dsimp only;omega)
  ·rintro F W ⟨N',hF,gW,hlW,hbW,hvW,hnil,cW⟩
   rw [←oK hF]
   simp only [oP]
   clear hF
   have htl:=pz hok
   have hw0:=n08.size
   have hw7:=b17.lt
   have Ig: ∀k,nv.ownBlock=some k→w7.heap.size≤k:=fun k hk=>(g0.nd.row.lt hk).1
   have aeL:=n07.size
   have hst:rowsOf (bnF N') (stF N') N'.length=zZ g:=by
    rw [hbW,hlW,hNl]
    exact NQ (JF hok) (Xp hvW (ready_nil (fl:=g.fails.contains) hnil) (JC (nS g) g.fails.contains g.tree.length).1 (JC (nS g) g.fails.contains g.tree.length).2 (JF hok))
   have nW:New w W:=(Chg.trans (M:=fun k=>w7.heap.size≤k) n08.any cW fun k _ e=>Ig k e).toNew fun k hk e=>by omega
   have aat:=b7.lt
   have bx:=b48.chg cW fun e=>by have:=Ig _ e;have:=b47.lt;omega
   have bg:=b18.chg cW fun e=>by have:=Ig _ e;omega
   have br:=b78.chg cW fun e=>by have:=Ig _ e;omega
   have rxW:=((show RdG (fun b=>b<w7.heap.size) w7 g _ _ _ _ from ⟨rx7.t.mono zh fun b hb _=>hb,rx7.c.mono J7 fun b hb _=>hb,rx7.f.mono (nX _) fun b hb _=>hb,rx7.g.mono (nX _) fun b hb _=>hb⟩).keep n8.keep pO).keep (cW.keep fun b _ (hb:b<w7.heap.size) e=>by have:=Ig b e;omega) pO
   have oRW:=(hR8.chg cW fun k (hk:k<w7.heap.size) e=>by have:=Ig k e;omega)
   have hon: ∀i∈oV (nS g) g.tree.length,i<N'.length:=fun i hi=>by rw [hlW,hNl];exact (xN.1 hi).1
   have hol:=AX (nS g) g.tree.length
   clear rx7 hR8 hR7 b18 b48 b78 b17 b47 b7 hr hl1 hl0
   (repeat' (refine au ?_))
   refine bP rfl (by kernel_rfl) (fun w'=>New W w') (Chg.drew _ _) ?_
   intro w9 n9
   (repeat' (refine aa2 (aa9 (ax ?_))))
   refine aU rfl (aB (Ih (gW.new n9) hon (fun i=>hvW.le i) (by omega)) rfl ?_)
   rintro lv w10 ⟨oR,nR⟩
   rw [hbW,hnil] at oR
   obtain ⟨ra,rc,hlv,_,_⟩:=oR.form
   replace hlv:lv=.slice ra 0 rc:=hlv
   subst hlv
   have n10:=New.trans n9 nR
   refine af ⟨rfl,n10,?_⟩
   (repeat' (first|refine bZ rfl rfl ?_|refine aa2 (aa9 (ax ?_))|refine aa2 (eY rfl (ax ?_))|(refine aa2 (eX rfl rfl (fun _=>ax ?_) (fun _=>ax ?_))<;>(first|(exfalso;omega)|skip))))
   refine aU rfl (aB (JE (gW.new n10)) rfl ?_)
   rintro rv w11 ⟨oRw,nRw⟩
   rw [hst] at oRw
   have n11:=New.trans n10 nRw
   refine af ⟨rfl,n11,?_⟩
   (repeat' (first|refine bZ rfl rfl ?_|refine aa2 (aa7 (ax ?_))))
   refine aa2 (aC (u:=.slice p1 g.tree.length q1) rfl (fun w' hw=>(br.chg hw fun e=>e).cell (o:=0) rfl) (ax ?_))
   (repeat' (refine bZ rfl rfl ?_))
   refine aU rfl (aB (Qj (oRw.rd (nO _)) ((oRW.new n11).rows.rd (nO _))) rfl ?_)
   rintro _ w12 ⟨rfl,n12'⟩
   have n12:=New.trans n11 n12'
   refine af ⟨rfl,n12,?_⟩
   (repeat' (first|refine dh ?_|refine bZ rfl rfl ?_|refine aa2 (wz (ax ?_))|refine aa2 (dQ rfl (ax ?_))))
   have nA:=New.trans nW n12
   have ahl:w7.heap.size≤w12.heap.size:=by have:=n8.size;have:=cW.size;have:=n12.size;omega
   have bxA:=bx.chg n12 fun e=>e
   have bgA:=bg.chg n12 fun e=>e
   have brA:=br.chg n12 fun e=>e
   have rxA:=rxW.keep n12.keep pO
   have oRA:=oRW.new n12
   clear bx bg br rxW oRW oRw n9 n10 n11 nR nRw n12 n12' oR gW cW
   (repeat' (first|refine ah ?_|refine au ?_|refine ak ?_|refine Wc.skip ?_|refine aa4 ?_))
   refine bM bgA rfl rfl ?_
   refine aB (NU (RdG.keep r nA.keep pO) z) rfl ?_
   rintro _ w13 ⟨⟨yt,ycv,yf,yg,rfl,oy⟩,n13⟩
   have ryf:=oy.rd
   obtain ⟨⟨ya0,YV,LT,rfl,hLT,oT,hPT⟩,⟨ya,yc,L,rfl,hL,oC,hPC⟩,ofy,ogy⟩:=oy
   obtain ⟨yfa,yfc,rfl,_,_⟩:=ryf.f.form
   obtain ⟨yga,ygc,rfl,_,_⟩:=ryf.g.form
   refine Wl.alloc fun w14 b14 n14 s14=>?_
   refine aV (new:=[.slice ya0 g.tree.length YV,.slice ya g.cards.length yc,.slice yfa g.fails.length yfc,.slice yga g.gone.length ygc]) b14 rfl rfl rfl rfl (show (4:Nat)≤4 from Nat.le_refl 4) sl4 fun w15 b15 c15 s15=>?_
   replace b15:Bk w15 w13.heap.size 27 [.slice ya0 g.tree.length YV,.slice ya g.cards.length yc,.slice yfa g.fails.length yfc,.slice yga g.gone.length ygc]:=b15
   have Iu:New w13 w15:=(Chg.trans n14.any c15 fun _ _ e=>e).toNew fun k hk e=>by omega
   have nB:=New.trans n13 Iu
   have oT':=oT.new (nG _) Iu
   have oC':=oC.new (nG _) Iu
   have afG: ∀p∈LT,tX _ w15 p.2 p.1.nZ:=fun p hp=>(hPT p hp).chg Iu fun _ _ e=>e
   have afH: ∀p∈L,rM _ w15 (svV p.2) p.1.compat:=fun p hp=>(hPC p hp).keep Iu.keep
   have afI:=ofy.keep Iu.keep
   have afJ:=ogy.keep Iu.keep
   have bxB:=bxA.chg nB fun e=>e
   have brB:=brA.chg nB fun e=>e
   have rxB:=rxA.keep nB.keep pO
   have oRB:=oRA.new nB
   have nC:=New.trans nA nB
   clear b14 n14 c15 ryf oT oC hPT hPC ofy ogy bgA rxA oRA
   have hnl:L.length=g.cards.length:=by rw [←hL,List.length_map]
   have hok2:=(tJ.1 he).2.1
   have hnd:=(xP.1 hok2).2.2
   have aiv:=(xP.1 hok2).1
   obtain ⟨gb,aiw,hgv,YW,aix,afK⟩:=oC'.blk (by simp)
   have hLl:(L++ [mkC]).length=g.cards.length+1:=by rw [List.length_append,hnl];rfl
   rw [hLl] at hgv
   injection hgv with hya _ hyc
   subst hya hyc
   have aiy:w13.heap.size<w15.heap.size:=b15.lt
   have VZ: ¬w13.heap.size=gb:=by
    intro e
    exact oC'.pR b15 rfl afK e.symm
   (repeat' (first|refine aa1 ?_|refine af ?_|refine ah ?_|refine au ?_|refine ak ?_|refine Wc.block ?_))
   refine aS (σ:=Nat×List (Cd×SV)) (fun q=>[(2,vi turn),(7,pT xb),(8,pT b8),(17,pT w13.heap.size),(18,vi q.1)])
    (fun q W'=>q.1≤g.cards.length∧q.2.Perm L∧nN (flat cdV) 69 7 (fun b=>w12.heap.size≤b) NoB W' (.slice (some ⟨gb,0,none⟩) (g.cards.length+1) yc) (q.2++ [mkC])∧Chg (fun k=>k=gb) w15 W') (fun q=>g.cards.length-q.1) (0,L)
    ⟨rfl,rfl,rfl,rfl,rfl,trivial⟩ ⟨Nat.zero_le _,List.Perm.refl _,oC',aQ _ _⟩ ?_
   rintro ⟨i,L1⟩ G1 W1 ⟨hi,hpm,o1,c1⟩
   dsimp only at hi hpm o1 c1
   simp only [oP]
   have hl1:L1.length=g.cards.length:=by rw [hpm.length_eq,hnl]
   have XG:(L1++ [mkC]).length=g.cards.length+1:=by rw [List.length_append,hl1];rfl
   have bY1:=b15.chg c1 fun e=>VZ e
   (repeat' (first|refine aa0 ?_|refine au ?_|refine ak ?_|refine aa5 ?_))
   refine ay (u:=.slice (some ⟨gb,0,none⟩) g.cards.length yc) rfl (bY1.cell (o:=1) rfl) ?_
   (repeat' (first|refine af ?_|refine aI rfl ?_|refine ah ?_|refine au ?_|refine ak ?_|refine Wc.block ?_|refine Wc.skip ?_|refine aK ?_|refine aN ?_|refine aJ ?_|refine aP ?_|refine aa3 ?_|refine aa4 ?_|refine pF (fun _=>?_) (fun _=>?_)))
   ·have hn:(0:Int)<g.cards.length:=by omega
    have hb1:=Int.lt_tmod_of_pos (IntKind.i64.wrap (turn+i)) hn
    have hb2:=Int.tmod_lt_of_pos (IntKind.i64.wrap (turn+i)) hn
    obtain ⟨k,hk,ek⟩:=aaP (IntKind.i64.wrap (turn+i)) (n:=g.cards.length) (by omega)
    refine dZ rfl (by kernel_rfl) ?_
    (repeat' (refine aa9 ?_))
    refine Wq.TW rfl rfl ?_
    (repeat' (refine aa7 ?_))
    refine aC (u:=.slice (some ⟨gb,0,none⟩) g.cards.length yc) rfl (fun w' hw=>(bY1.chg hw fun e=>e).cell (o:=1) rfl) ?_
    (repeat' (refine eY rfl ?_))
    refine jq rfl rfl (by omega) ?_
    (repeat' (refine aa7 ?_))
    refine aC (u:=.slice (some ⟨gb,0,none⟩) g.cards.length yc) rfl (fun w' hw=>(bY1.chg hw fun e=>e).cell (o:=1) rfl) ?_
    (repeat' (first|refine eY rfl ?_|refine aa7 ?_|refine Wq.add rfl rfl (by omega) (by omega) ?_))
    refine aC (u:=.slice (some ⟨gb,0,none⟩) g.cards.length yc) rfl (fun w' hw=>(bY1.chg hw fun e=>e).cell (o:=1) rfl) ?_
    (repeat' (refine eY rfl ?_))
    refine jq rfl rfl (by omega) ?_
    rw [ek]
    (repeat' (first|refine eu (by conv=>{lhs;whnf}) ?_|refine ax ?_))
    intro w20 n20
    have o2:=o1.new (nG cdV) n20
    replace bY1:=bY1.chg n20 fun e=>e
    replace c1:=Chg.trans c1 n20.any fun _ _ e=>e
    clear ek hb1 hb2
    (repeat' (refine ah ?_))
    obtain ⟨x,hx⟩:=nP L1 (k:=i) (by omega)
    obtain ⟨y,hy⟩:=nP L1 (k:=k) (by omega)
    have hxa:(L1++ [mkC])[i]? =some x:=by rw [List.getElem?_append_left (by omega)];exact hx
    have hya:(L1++ [mkC])[k]? =some y:=by rw [List.getElem?_append_left (by omega)];exact hy
    refine ig rfl (by kernel_rfl) (fun k w'=>Chg (fun b=>XE k=true∧b=gb) w20 w') (fun k=>Chg.drew _ _) ?_
    intro w21 n21
    have hat: ∀(k:Nat) (w':World) (j:Nat) (xx:Cd×SV),XE k=false→(L1++ [mkC])[j]? =some xx→Chg (fun b=>XE k=true∧b=gb) w20 w'→ ∀i:Int,i=(j:Nat)→At w' gb (0+i.toNat*7) (cdV xx):=fun k w' j xx hk hx hw i hi=>by
     have:=(o2.chg (nG cdV) hw fun _ _ e=>by rw [hk] at e;cases e.1).at rfl rfl hx
     rw [Nat.zero_add,hi,Int.toNat_natCast];exact this
    (repeat' (refine aY rfl (aa7 (ax ?_))))
    refine aY rfl (aC (u:=.slice (some ⟨gb,0,none⟩) g.cards.length yc) rfl (fun w' hw=>(bY1.chg hw fun e=>VZ e.2).cell (o:=1) rfl) (ax ?_))
    (repeat' (first|refine aY rfl (aa9 (ax ?_))|refine aY rfl (aa7 (ax ?_))))
    refine aY rfl (aC (u:=.slice (some ⟨gb,0,none⟩) g.cards.length yc) rfl (fun w' hw=>(bY1.chg hw fun e=>VZ e.2).cell (o:=1) rfl) (ax ?_))
    (repeat' (first|refine aY rfl (aa9 (ax ?_))|refine aY rfl (aa7 (ax ?_))))
    refine aY rfl (aC (u:=.slice (some ⟨gb,0,none⟩) g.cards.length yc) rfl (fun w' hw=>(bY1.chg hw fun e=>VZ e.2).cell (o:=1) rfl) (ax ?_))
    (repeat' (refine aY rfl (aa9 (ax ?_))))
    refine aY rfl (sD (ax ?_))
    refine aY rfl (bQ (cs:=cdV y) (fun w' hw=>hat 10 w' k _ rfl hya hw k rfl) rfl (by rfl) (ax ?_))
    (repeat' (refine aY rfl (aa7 (ax ?_))))
    refine aY rfl (aC (u:=.slice (some ⟨gb,0,none⟩) g.cards.length yc) rfl (fun w' hw=>(bY1.chg hw fun e=>VZ e.2).cell (o:=1) rfl) (ax ?_))
    (repeat' (refine aY rfl (aa9 (ax ?_))))
    refine aY rfl (sD (ax ?_))
    refine aY rfl (bQ (cs:=cdV x) (fun w' hw=>hat 15 w' i _ rfl hxa hw i rfl) rfl (by rfl) (ax ?_))
    refine aY rfl (sD (ax ?_))
    refine gZ rfl (dY (f:=cdV) (q:=y) (j:=i) (sz:=7) (cap:=yc) (fun _=>rfl) Xx (o2.new (nG cdV) n21) (by rw [XG]) (by rw [XG];omega) (by show Value.pointer (some ⟨gb,0+(i:Int).toNat*7,none⟩)=_;rw [Int.toNat_natCast,Nat.zero_add]) rfl rfl fun w22 o22 c22=>?_)
    have MZ:Chg (fun k=>k=gb) w20 w22:=Chg.trans n21.any c22 fun k _ e=>by injection e with e;exact e.symm
    refine af ⟨rfl,fun j hj=>MZ.mono fun k _ e=>⟨iw (N:=20) (p:=XE) (by kernel_rfl) (fun j hj=>decide_eq_true (.inr (by omega))) (fun j hj=>decide_eq_true (.inr (by omega))) hj,e⟩,?_⟩
    refine aY rfl (sD (ax ?_))
    refine Wu.last rfl (dY (f:=cdV) (q:=x) (j:=k) (sz:=7) (cap:=yc) (fun _=>rfl) Xx o22 (by rw [List.length_set,XG]) (by rw [List.length_set,XG];omega) (by show Value.pointer (some ⟨gb,0+(k:Int).toNat*7,none⟩)=_;rw [Int.toNat_natCast,Nat.zero_add]) rfl rfl fun w23 o23 c23=>?_)
    rw [List.set_append_left _ _ (by omega),List.set_append_left _ _ (by rw [List.length_set];omega)] at o23
    have afL:Chg (fun k=>k=gb) w20 w23:=Chg.trans MZ c23 fun k _ e=>by injection e with e;exact e.symm
    refine af ?_
    (repeat' (first|refine aa0 ?_|refine aa1 ?_|refine af ?_|refine ah ?_|refine ak ?_|refine aH ?_|refine aa8 ?_))
    exact aG (i+1,(L1.set i y).set k x) ⟨rfl,rfl,rfl,rfl,rfl,trivial⟩ ⟨by dsimp only;omega,(swap_perm L1 i k x y hx hy).trans hpm,o23,Chg.trans c1 afL fun _ _ e=>e⟩ (by dsimp only;omega)
   ·obtain rfl:i=g.cards.length:=by omega
    have hg7:=YW
    obtain ⟨cs',hcs⟩: ∃cs':List Cd,cs'=L1.map (·.1):=⟨_,rfl⟩
    have hpc:cs'.Perm g.cards:=by rw [hcs, ←hL];exact hpm.map _
    have hog:=Ql (g:=g) ⟨ya0,YV,LT,rfl,hLT,oT',afG⟩ oC' afH afI afJ hL hpm o1 (c1.mono fun k _ e=>by rw [e];rfl)
    rw [←hcs] at hog
    have ry:=hog.rd
    have n1W:New w12 W1:=(Chg.trans (M:=fun k=>k=gb) nB.any c1 fun k _ e=>e).toNew fun k hk e=>by omega
    have sh':Qh (g.with cs'):=⟨sh.f,sh.g⟩
    have bx1:=bxB.chg c1 fun e=>by have:=bxB.lt;have:=bxA.lt;omega
    have br1:=brB.chg c1 fun e=>by have:=brA.lt;omega
    have he':qI (g.with cs')=0:=tJ.2 ⟨hok,KR hpc hok2,(tJ.1 he).2.2.1,(tJ.1 he).2.2.2⟩
    skip
    refine bM bY1 rfl rfl ?_
    refine aB (Bz ry sh') rfl ?_
    rintro _ w16 ⟨hs,n16⟩
    obtain ⟨s1,sl1,t1,s2,sl2,t2,s3,sl3,t3,s4,aaS,t4,rfl,hS,hsl1,_⟩:=hs.form
    have hS:=hS he'
    have hsl:=hsl1 he'
    replace hsl:sl1=g.tree.length:=hsl
    subst hsl
    have hend:uD (g.with cs')=uD g:=by
     show sO (nS (g.with cs')) g.fails.contains g.tree.length=_
     rw [NP hpc hnd,VD]
    have hl2:l2=(uD g).1.length:=by
     obtain ⟨_,⟨_,_,e⟩,_⟩:=oRB.form
     injection e
    have hsl2:sl2=(uD g).1.length:=by
     obtain ⟨_,⟨_,_,e⟩,_⟩:=hS.form
     rw [hend] at e
     injection e
    subst hl2 hsl2
    rw [he']
    (repeat' (first|refine aa0 ?_|refine pI ?_))
    refine Wl.alloc fun w17 b17 n17 s17=>?_
    refine aV (new:=[.slice s1 g.tree.length t1,.slice s2 (uD g).1.length t2,.slice s3 sl3 t3,.slice s4 aaS t4]) b17 rfl rfl rfl rfl (show (4:Nat)≤4 from Nat.le_refl 4) sl4 fun w18 b18 c18 s18=>?_
    replace b18:Bk w18 w16.heap.size 33 [.slice s1 g.tree.length t1,.slice s2 (uD g).1.length t2,.slice s3 sl3 t3,.slice s4 aaS t4]:=b18
    have X0:New w16 w18:=(Chg.trans n17.any c18 fun _ _ e=>e).toNew fun k hk e=>by omega
    have n118:=New.trans n16 X0
    have bx2:=bx1.chg n118 fun e=>e
    have br2:=br1.chg n118 fun e=>e
    have bY2:=bY1.chg n118 fun e=>e
    have oS2:=(hS.rows.new (nG _) X0).rd (nO _)
    have oR2:=(((oRB.rows.rd (nO _)).keep (oJ _) (c1.keep fun b _ hb e=>by
     have hgb:w12.heap.size≤gb:=YW
     have:=n07.size
     have:=nA.size
     rcases hb with hb|hb
     ·have hb:b<w7.heap.size:=hb
      have:=n08.size
      omega
     ·exact hb)).keep (oJ _) n118.keep)
    have rxc:=((rxB.c.keep pO (c1.keep fun b _ (hb:b<w7.heap.size) e=>by
     have hgb:w12.heap.size≤gb:=YW
     omega)).keep pO n118.keep)
    have ryc:=ry.c.keep pO n118.keep
    have n0x:New w w18:=New.trans nA (New.trans n1W n118)
    clear b17 n17 c18 bx1 br1 bY1 bxB brB rxB oRB ry hog
    generalize hel:(uD g).1.length=el at*
    (repeat' (first|refine aa0 ?_|refine aa1 ?_|refine af ?_|refine aa6 ?_|refine ah ?_|refine au ?_|refine ak ?_|refine aa5 ?_|(refine pV (fun _=>?_) (fun _=>?_)<;>(first|(exfalso;omega)|skip))))
    refine ay (u:=.slice s1 g.tree.length t1) rfl (b18.cell (o:=0) rfl) ?_
    (repeat' (first|refine aa6 ?_|refine aI rfl ?_|refine aa5 ?_))
    refine ay (u:=.slice p1 g.tree.length q1) rfl (br2.cell (o:=0) rfl) ?_
    (repeat' (first|refine aa0 ?_|refine aa6 ?_|refine pJ ?_|refine aI rfl ?_|refine aa5 ?_|(refine pV (fun _=>?_) (fun _=>?_)<;>(first|(exfalso;omega)|skip))))
    refine ay (u:=.slice s2 el t2) rfl (b18.cell (o:=1) rfl) ?_
    (repeat' (first|refine aa6 ?_|refine aI rfl ?_|refine aa5 ?_))
    refine ay (u:=.slice p2 el q2) rfl (br2.cell (o:=1) rfl) ?_
    (repeat' (first|refine aa1 ?_|refine af ?_|refine aa6 ?_|refine pJ ?_|refine aI rfl ?_|refine ah ?_|refine au ?_|refine ak ?_|refine Wc.block ?_|refine Wc.skip ?_|refine aa4 ?_|(refine pV (fun _=>?_) (fun _=>?_)<;>(first|(exfalso;omega)|skip))))
    have Xa:el≤el:=Nat.le_refl _
    have hrl:=yR g
    have aiz:(zZ (g.with cs')).length=g.tree.length:=yR (g.with cs')
    refine aS (σ:=Nat) (fun k=>[(7,pT xb),(8,pT b8),(17,pT w13.heap.size),(20,pT w16.heap.size),(22,vi k)]) (fun k W'=>k≤g.tree.length∧New w18 W') (fun k=>g.tree.length-k) 0 ⟨rfl,rfl,rfl,rfl,rfl,trivial⟩ ⟨Nat.zero_le _,aQ _ _⟩ ?_
    rintro k G2 W2 ⟨hk,n2⟩
    simp only [oP]
    have bx3:=bx2.chg n2 fun e=>e
    have br3:=br2.chg n2 fun e=>e
    have bY3:=bY2.chg n2 fun e=>e
    have bs3:=b18.chg n2 fun e=>e
    (repeat' (first|refine aa0 ?_|refine au ?_|refine ak ?_|refine aa5 ?_))
    refine ay (u:=.slice s1 g.tree.length t1) rfl (bs3.cell (o:=0) rfl) ?_
    (repeat' (first|refine af ?_|refine aI rfl ?_|refine ah ?_|refine au ?_|refine ak ?_|refine Wc.block ?_|refine Wc.skip ?_|refine aK ?_|refine aN ?_|refine aJ ?_|refine aP ?_|refine aa3 ?_|refine aa4 ?_|refine aa5 ?_|refine pF (fun _=>?_) (fun _=>?_)))
    ·have g1:=yS (g:=g) (i:=k) (by omega)
     have g2:=yS (g:=g.with cs') (i:=k) (by show k<g.tree.length;omega)
     refine ay (u:=.slice s1 g.tree.length t1) rfl (bs3.cell (o:=0) rfl) ?_
     (repeat' (refine aa0 ?_))
     refine aZ (oS2.keep (oJ _) n2.keep) rfl rfl (by omega) (by rw [Int.toNat_natCast];exact g2) fun b o cs hl hR hat=>?_
     obtain rfl:cs=rwC _:=hR
     refine bG hat rfl rfl ?_
     clear hat
     refine Wl.alloc fun w19 b19 n19 s19=>?_
     refine aV (new:=rwC (rowOf (nS (g.with cs')) (uD (g.with cs')).2 k)) b19 rfl rfl rfl rfl (show (3:Nat)≤3 from Nat.le_refl 3) (by intro c hc;simp at hc;rcases hc with rfl|rfl|rfl<;>rfl) fun w20 b20 c20 s20=>?_
     replace b20:Bk w20 W2.heap.size 39 (rwC (rowOf (nS (g.with cs')) (uD (g.with cs')).2 k)):=b20
     have n220:New W2 w20:=(Chg.trans n19.any c20 fun _ _ e=>e).toNew fun k hk e=>by omega
     clear b19 n19 c20
     (repeat' (first|refine af ?_|refine ah ?_|refine au ?_|refine ak ?_|refine aa5 ?_))
     refine ay (u:=.slice p1 g.tree.length q1) rfl ((br3.chg n220 fun e=>e).cell (o:=0) rfl) ?_
     (repeat' (refine aa0 ?_))
     refine aZ ((oR2.keep (oJ _) n2.keep).keep (oJ _) n220.keep) rfl rfl (by omega) (by rw [Int.toNat_natCast];exact g1) fun b o cs hl hR hat=>?_
     obtain rfl:cs=rwC _:=hR
     refine bG hat rfl rfl ?_
     clear hat
     refine Wl.alloc fun w21 b21 n21 s21=>?_
     refine aV (new:=rwC (rowOf (nS g) (uD g).2 k)) b21 rfl rfl rfl rfl (show (3:Nat)≤3 from Nat.le_refl 3) (by intro c hc;simp at hc;rcases hc with rfl|rfl|rfl<;>rfl) fun w22 b22 c22 s22=>?_
     replace b22:Bk w22 w20.heap.size 39 (rwC (rowOf (nS g) (uD g).2 k)):=b22
     have X3:New w20 w22:=(Chg.trans n21.any c22 fun _ _ e=>e).toNew fun k hk e=>by omega
     clear b21 n21 c22
     replace b20:=b20.chg X3 fun e=>e
     have n222:=New.trans n220 X3
     have V3:=New.trans n2 n222
     have hx4:=bx3.chg n222 fun e=>e
     have hY4:=bY3.chg n222 fun e=>e
     have rx4:=rxc.keep pO V3.keep
     have ry4:=ryc.keep pO V3.keep
     have hwc:rowOf (nS (g.with cs')) (uD (g.with cs')).2 k=((rowOf (nS g) (uD g).2 k).1,(nS (g.with cs') k).card,(rowOf (nS g) (uD g).2 k).2.2):=by
      rw [hend]
      have h1:=NM (nS g) (fun i=>(nS (g.with cs') i).card) (uD g).2 k
      rw [←NP hpc hnd] at h1
      exact Prod.ext h1.1 (Prod.ext h1.2.2.1 h1.2.1)
     have hwg:(rowOf (nS g) (uD g).2 k).2.1=(nS g k).card:=(NM (nS g) (fun i=>(nS (g.with cs') i).card) (uD g).2 k).2.2.2
     have hcp:=Tq hpc hnd k
     have hc1:=fun q (e:(nS (g.with cs') k).card=some q)=>BM e
     have hc2:=fun q (e:(nS g k).card=some q)=>BM e
     rw [hwc] at b20
     clear hwc g1 g2
     generalize rowOf (nS g) (uD g).2 k=xr at*
     obtain ⟨xr1,xr2,xr3⟩:=xr
     dsimp only at hwg b20 b22
     subst hwg
     generalize (nS g k).card=ca1 at*
     generalize (nS (g.with cs') k).card=cb1 at*
     have fin: ∀w',New w22 w'→k+1≤g.tree.length∧New w18 w':=fun w' n=>⟨by omega,New.trans V3 n⟩
     (repeat' (first|refine af ?_|refine ah ?_|refine au ?_))
     cases cb1 with
     |none=>
      cases ca1 with
      |some q=>cases hcp
      |none=>
       refine dZ rfl (by kernel_rfl) ?_
       (repeat' (refine aa7 ?_))
       refine aC (u:=.int .u8 xr1) rfl (fun w' hw=>(b20.chg hw fun e=>e).cell (o:=0) rfl) ?_
       (repeat' (refine aa7 ?_))
       refine aC (u:=.int .u8 xr1) rfl (fun w' hw=>(b22.chg hw fun e=>e).cell (o:=0) rfl) ?_
       (repeat' (first|refine aa9 ?_|refine qE ?_|refine aa7 ?_|(refine eX rfl rfl (fun _=>?_) (fun _=>?_)<;>(first|(exfalso;omega)|skip))))
       refine aC (u:=vi xr3) rfl (fun w' hw=>(b20.chg hw fun e=>e).cell (o:=2) rfl) ?_
       (repeat' (first|refine qE ?_|refine aa7 ?_))
       refine aC (u:=vi xr3) rfl (fun w' hw=>(b22.chg hw fun e=>e).cell (o:=2) rfl) ?_
       (repeat' (first|refine aa9 ?_|refine qE ?_|refine wz ?_|refine aa7 ?_|(refine eX rfl rfl (fun _=>?_) (fun _=>?_)<;>(first|(exfalso;omega)|skip))))
       refine aC (u:=vi (-1)) rfl (fun w' hw=>(b20.chg hw fun e=>e).cell (o:=1) rfl) ?_
       (repeat' (first|refine qE ?_|refine aa7 ?_|(refine dI rfl rfl (fun _=>?_) (fun _=>?_)<;>(first|(exfalso;omega)|skip))))
       refine aC (u:=vi (-1)) rfl (fun w' hw=>(b22.chg hw fun e=>e).cell (o:=1) rfl) ?_
       (repeat' (first|refine qE ?_|(refine dI rfl rfl (fun _=>?_) (fun _=>?_)<;>(first|(exfalso;omega)|skip))))
       refine jY rfl rfl ?_
       (repeat' (first|refine aa9 ?_|refine qE ?_|refine wz ?_|refine aa7 ?_))
       refine aC (u:=vi (-1)) rfl (fun w' hw=>(b20.chg hw fun e=>e).cell (o:=1) rfl) ?_
       (repeat' (first|refine aa9 ?_|refine ax ?_|refine qE ?_|refine fK rfl rfl ?_|refine iZ rfl ?_|refine wz ?_|(refine fU rfl rfl (fun _=>?_) (fun _=>?_)<;>(first|(exfalso;omega)|skip))))
       intro w30 n30
       (repeat' (first|refine aa0 ?_|refine aa1 ?_|refine af ?_|refine ah ?_|refine ak ?_|refine Wc.skip ?_|refine aH ?_|refine aa4 ?_|refine aa8 ?_))
       exact aG (k+1) ⟨rfl,rfl,rfl,rfl,rfl,trivial⟩ (fin w30 n30) (by omega)
     |some p=>
      cases ca1 with
      |none=>cases hcp
      |some q=>
       have hpl':=hc1 p rfl
       have hql:=hc2 q rfl
       have hlc:cs'.length=g.cards.length:=hpc.length_eq
       obtain ⟨c,hcy⟩:=nP cs' (k:=p) hpl'
       obtain ⟨c2,hcx⟩:=nP g.cards (k:=q) hql
       have hcc:c2=c:=by
        have h1:=Option.some.inj hcp
        unfold IQ at h1
        rw [List.getD_eq_getElem?_getD,List.getD_eq_getElem?_getD,hcy,hcx] at h1
        exact h1.symm
       subst hcc
       replace hpl':p<g.cards.length:=by rw [←hlc];exact hpl'
       refine dZ rfl (by kernel_rfl) ?_
       (repeat' (refine aa7 ?_))
       refine aC (u:=.int .u8 xr1) rfl (fun w' hw=>(b20.chg hw fun e=>e).cell (o:=0) rfl) ?_
       (repeat' (refine aa7 ?_))
       refine aC (u:=.int .u8 xr1) rfl (fun w' hw=>(b22.chg hw fun e=>e).cell (o:=0) rfl) ?_
       (repeat' (first|refine aa9 ?_|refine qE ?_|refine aa7 ?_|(refine eX rfl rfl (fun _=>?_) (fun _=>?_)<;>(first|(exfalso;omega)|skip))))
       refine aC (u:=vi xr3) rfl (fun w' hw=>(b20.chg hw fun e=>e).cell (o:=2) rfl) ?_
       (repeat' (first|refine qE ?_|refine aa7 ?_))
       refine aC (u:=vi xr3) rfl (fun w' hw=>(b22.chg hw fun e=>e).cell (o:=2) rfl) ?_
       (repeat' (first|refine aa9 ?_|refine qE ?_|refine wz ?_|refine aa7 ?_|(refine eX rfl rfl (fun _=>?_) (fun _=>?_)<;>(first|(exfalso;omega)|skip))))
       refine aC (u:=vi (p:Nat)) rfl (fun w' hw=>(b20.chg hw fun e=>e).cell (o:=1) rfl) ?_
       (repeat' (first|refine qE ?_|refine aa7 ?_|(refine dI rfl rfl (fun _=>?_) (fun _=>?_)<;>(first|(exfalso;omega)|skip))))
       refine aC (u:=vi (q:Nat)) rfl (fun w' hw=>(b22.chg hw fun e=>e).cell (o:=1) rfl) ?_
       (repeat' (first|refine qE ?_|(refine dI rfl rfl (fun _=>?_) (fun _=>?_)<;>(first|(exfalso;omega)|skip))))
       refine jY rfl rfl ?_
       (repeat' (first|refine aa9 ?_|refine qE ?_|refine wz ?_|refine aa7 ?_))
       refine aC (u:=vi (p:Nat)) rfl (fun w' hw=>(b20.chg hw fun e=>e).cell (o:=1) rfl) ?_
       (repeat' (first|refine aa9 ?_|refine qE ?_|refine aa7 ?_|(refine fU rfl rfl (fun _=>?_) (fun _=>?_)<;>(first|(exfalso;omega)|skip))))
       refine aC (u:=vi (p:Nat)) rfl (fun w' hw=>(b20.chg hw fun e=>e).cell (o:=1) rfl) ?_
       (repeat' (first|refine qE ?_|refine aa7 ?_))
       refine aC (u:=.slice (some ⟨gb,0,none⟩) g.cards.length yc) rfl (fun w' hw=>(hY4.chg hw fun e=>e).cell (o:=1) rfl) ?_
       (repeat' (first|refine aa9 ?_|refine qE ?_|refine eY rfl ?_|refine aa7 ?_|(refine fU rfl rfl (fun _=>?_) (fun _=>?_)<;>(first|(exfalso;omega)|skip))))
       refine aC (u:=vi (q:Nat)) rfl (fun w' hw=>(b22.chg hw fun e=>e).cell (o:=1) rfl) ?_
       (repeat' (first|refine qE ?_|refine aa7 ?_))
       refine aC (u:=.slice xca g.cards.length xcc) rfl (fun w' hw=>(hx4.chg hw fun e=>e).cell (o:=1) rfl) ?_
       (repeat' (first|refine aa9 ?_|refine qE ?_|refine wz ?_|refine eY rfl ?_|refine aa7 ?_|(refine fU rfl rfl (fun _=>?_) (fun _=>?_)<;>(first|(exfalso;omega)|skip))))
       refine aC (u:=.slice (some ⟨gb,0,none⟩) g.cards.length yc) rfl (fun w' hw=>(hY4.chg hw fun e=>e).cell (o:=1) rfl) ?_
       (repeat' (first|refine qE ?_|refine aa7 ?_))
       refine aC (u:=vi (p:Nat)) rfl (fun w' hw=>(b20.chg hw fun e=>e).cell (o:=1) rfl) ?_
       (repeat' (refine qE ?_))
       refine bV ry4 (fun w' hw=>hw.keep) rfl rfl (by omega) (by rw [Int.toNat_natCast];exact hcy) fun b o cs hl hR hat=>?_
       obtain ⟨cv,rfl,_⟩:=hR
       (repeat' (first|refine qE ?_|refine aa7 ?_))
       refine aC (u:=vs c2.name) rfl (fun w' hw=>(hat w' hw).get 0 rfl) ?_
       clear hat
       (repeat' (first|refine qE ?_|refine aa7 ?_))
       refine aC (u:=.slice xca g.cards.length xcc) rfl (fun w' hw=>(hx4.chg hw fun e=>e).cell (o:=1) rfl) ?_
       (repeat' (first|refine qE ?_|refine aa7 ?_))
       refine aC (u:=vi (q:Nat)) rfl (fun w' hw=>(b22.chg hw fun e=>e).cell (o:=1) rfl) ?_
       (repeat' (refine qE ?_))
       refine bV rx4 (fun w' hw=>hw.keep) rfl rfl (by omega) (by rw [Int.toNat_natCast];exact hcx) fun b o cs hl hR hat=>?_
       obtain ⟨cv2,rfl,_⟩:=hR
       (repeat' (first|refine qE ?_|refine aa7 ?_))
       refine aC (u:=vs c2.name) rfl (fun w' hw=>(hat w' hw).get 0 rfl) ?_
       clear hat
       (repeat' (first|refine ax ?_|refine qE ?_|refine dG rfl (by conv=>{lhs;whnf}) ?_|refine wz ?_|(refine Wq.N9 rfl rfl (fun _=>?_) (fun _=>?_)<;>(first|(exfalso;contradiction)|skip))))
       intro w30 n30
       (repeat' (first|refine aa0 ?_|refine aa1 ?_|refine af ?_|refine ah ?_|refine ak ?_|refine Wc.skip ?_|refine aH ?_|refine aa4 ?_|refine aa8 ?_))
       exact aG (k+1) ⟨rfl,rfl,rfl,rfl,rfl,trivial⟩ (fin w30 n30) (by omega)
    ·refine aB Ir rfl ?_
     rintro _ w40 ⟨rfl,n40⟩
     (repeat' (first|refine aa1 ?_|refine af ?_|refine ah ?_|refine aA ?_))
     exact aF rfl rfl ⟨_,rfl,rfl,New.trans n0x (New.trans n2 n40)⟩
 ·rw [if_neg he] at hN
  subst hN
  have hl:=hl0 he
  subst hl
  generalize qI g=ne at*
  (repeat' (first|refine aa0 ?_|refine aa1 ?_|refine af ?_|refine pI ?_|refine aa6 ?_|refine ah ?_|refine au ?_|refine ak ?_|(refine pV (fun _=>?_) (fun _=>?_)<;>(first|(exfalso;omega)|skip))))
  refine gU rfl rfl ?_
  (repeat' (first|refine aa0 ?_|refine aa6 ?_|(refine pV (fun _=>?_) (fun _=>?_)<;>(first|(exfalso;omega)|skip))))
  refine jX rfl rfl ?_
  (repeat' (first|refine aa0 ?_|refine af ?_|refine pJ ?_|refine ah ?_|refine au ?_|refine ak ?_|refine Wc.skip ?_|refine aa3 ?_|refine aa4 ?_|refine aa5 ?_|(refine pV (fun _=>?_) (fun _=>?_)<;>(first|(exfalso;omega)|skip))))
  refine ay (u:=.slice p1 0 q1) rfl (b78.cell (o:=0) rfl) ?_
  (repeat' (first|refine aa0 ?_|refine aa6 ?_|refine aI rfl ?_|(refine cO rfl rfl (fun _=>?_) (fun _=>?_)<;>(first|(exfalso;omega)|skip))))
  refine aB Ir rfl ?_
  rintro _ w20 ⟨rfl,n20⟩
  (repeat' (first|refine aa1 ?_|refine af ?_|refine pU ?_|refine ah ?_|refine aA ?_|refine aO ?_))
  exact aF rfl rfl ⟨_,rfl,rfl,New.trans n08 n20⟩
end
end Go.Proofs.YtjecgaiaiophpaaGreatDoor
namespace Go.Proofs.YtjecgaiaiophpaaGreatDoor
open Go Wk
theorem V4 {H:Type} (d:DataW H):1≤Rows.uptoBulk d:=by
 cases d with
 |lit l=>cases l<;>simp [Rows.uptoBulk]
 |_=>simp [Rows.uptoBulk]
theorem V5 {H:Type} (l:List (DataW H)):l.length≤Rows.uptoBulkAll l:=by
 induction l with
 |nil=>simp [Rows.uptoBulkAll]
 |cons x r ih=>have:=V4 x;simp only [Rows.uptoBulkAll,List.length_cons];omega
theorem zN {α:Type} {D:Dat α} {H:Type} {xs:List α} {d:DataW H} (h:wP D H xs d):xs.length≤Rows.uptoBulk d:=by
 rcases h with ⟨rfl,rfl⟩|⟨es,sp,rfl,hl,_⟩
 ·simp
 ·have:=V5 es
  simp only [Rows.uptoBulk]
  omega
theorem NZ {α:Type} {D:Dat α} {H:Type} (μ:α→Nat) (hμ: ∀x d,D H x d→μ x≤Rows.uptoBulk d): ∀(xs:List α) (es:List (DataW H)),es.length=xs.length→(∀(i:Nat) (x:α),xs[i]? =some x→ ∃y,es[i]? =some y∧D H x y)→(xs.map μ).sum≤Rows.uptoBulkAll es
 | [],es,_,_=>by simp
 |x::xs,[],h,_=>by simp at h
 |x::xs,e::es,h,hd=>by
  obtain ⟨y,hy,hD⟩:=hd 0 x rfl
  simp at hy
  subst hy
  have ih:=NZ μ hμ xs es (by simpa using h) (fun i x hx=>by
   obtain ⟨y,hy,hD⟩:=hd (i+1) x (by simpa using hx)
   exact ⟨y,by simpa using hy,hD⟩)
  have:=hμ x e hD
  simp only [List.map_cons,List.sum_cons,Rows.uptoBulkAll]
  omega
theorem Qn {α:Type} {D:Dat α} {H:Type} {xs:List α} {d:DataW H} (μ:α→Nat) (hμ: ∀x d,D H x d→μ x≤Rows.uptoBulk d) (h:wP D H xs d):(xs.map μ).sum≤Rows.uptoBulk d:=by
 rcases h with ⟨rfl,rfl⟩|⟨es,sp,rfl,hl,hd⟩
 ·simp
 ·have:=NZ μ hμ xs es hl hd
  simp only [Rows.uptoBulk]
  omega
theorem N7 {H:Type} (l:List UInt8) (d:DataW H) (h:vT H l d):l.length+1≤Rows.uptoBulk d:=by
 obtain ⟨rfl,_⟩:=h
 simp [Rows.uptoBulk]
theorem XH {α:Type} {D:Dat α} {H:Type} {xs:List α} {d:DataW H} (h:wP D H xs d) {x:α} (hx:x∈xs): ∃y,D H x y:=by
 obtain ⟨i,hi⟩:=List.mem_iff_getElem?.1 hx
 rcases h with ⟨rfl,rfl⟩|⟨es,sp,rfl,hl,hd⟩
 ·simp at hi
 ·obtain ⟨y,_,hD⟩:=hd i x hi
  exact ⟨y,hD⟩
end Go.Proofs.YtjecgaiaiophpaaGreatDoor
namespace Go.Proofs.YtjecgaiaiophpaaGreatDoor
open Go Wk Go.ChangeShapes
theorem afM:Tryz.prog.cellsOf 3=1:=by kernel_rfl
theorem cU8:Tryz.prog.cellsOf 5=1:=by kernel_rfl
theorem cI8:Tryz.prog.cellsOf 66=1:=by kernel_rfl
theorem afN:Tryz.prog.cellsOf 67=1:=by kernel_rfl
theorem cStr:Tryz.prog.cellsOf 9=1:=by kernel_rfl
theorem afO:Tryz.prog.cellsOf 49=1:=by kernel_rfl
theorem afP:Tryz.prog.cellsOf 22=1:=by kernel_rfl
theorem afQ:Tryz.prog.cellsOf 23=1:=by kernel_rfl
theorem V6:Tryz.prog.cellsOf 24=1:=by kernel_rfl
theorem cPr:Tryz.prog.cellsOf 99=2:=by kernel_rfl
theorem cNd:Tryz.prog.cellsOf 51=3:=by kernel_rfl
theorem cCd:Tryz.prog.cellsOf 69=7:=by kernel_rfl
theorem cGv:Tryz.prog.cellsOf 26=4:=by kernel_rfl
theorem aaT {α:Type} {l:List α} (h:l.length=2): ∃a b,l=[a,b]:=by
 match l,h with
 | [a,b],_=>exact ⟨a,b,rfl⟩
theorem aaU {α:Type} {l:List α} (h:l.length=3): ∃a b c,l=[a,b,c]:=by
 match l,h with
 | [a,b,c],_=>exact ⟨a,b,c,rfl⟩
theorem aaV {α:Type} {l:List α} (h:l.length=4): ∃a b c d,l=[a,b,c,d]:=by
 match l,h with
 | [a,b,c,d],_=>exact ⟨a,b,c,d,rfl⟩
theorem aaW {α:Type} {l:List α} (h:l.length=7): ∃a b c d e f g,l=[a,b,c,d,e,f,g]:=by
 match l,h with
 | [a,b,c,d,e,f,g],_=>exact ⟨a,b,c,d,e,f,g,rfl⟩
def V7:Dat Pr:=fun H x d=> ∃d0 d1,d=.agg [d0,d1]∧vT H x.1 d0∧vT H x.2 d1
def V8:Dat Nd:=fun H x d=> ∃d0 d1 d2,d=.agg [d0,d1,d2]∧Gh .i64 H x.parent d0∧vT H x.name d1∧wP V7 H x.nZ d2
def V9:Dat Cd:=fun H x d=> ∃d0 d1 d2 d3 d4 d5 d6,d=.agg [d0,d1,d2,d3,d4,d5,d6]∧vT H x.name d0∧vT H x.family d1∧Gh .u8 H x.level d2∧wP vT H x.compat d3∧Gh .i8 H x.score d4∧vT H x.uU d5∧Gh .i16 H x.entry d6
def X4:Dat Giv:=fun H x d=> ∃d0 d1 d2 d3,d=.agg [d0,d1,d2,d3]∧wP V8 H x.tree d0∧wP V9 H x.cards d1∧wP vT H x.fails d2∧wP vT H x.gone d3
def rGv:Rel Giv:=fun Pb w g cs=> ∃tv cv fv gv,cs=[tv,cv,fv,gv]∧RdG Pb w g tv cv fv gv
theorem Wh:Opens Tryz.prog 99 rPr V7:=by
 intro H enc w fuel cs d ps h
 obtain ⟨xs,n,rfl,hx,hl,hlen,hf⟩:=DataW.trod_struct Tryz.underlying99 h
 rw [cPr] at hl
 obtain ⟨c0,c1,rfl⟩:=aaT hl
 obtain ⟨y0,y1,rfl⟩:=aaT (show xs.length=2 from hlen)
 have e0:DataW.trod enc Tryz.prog w 0 (fun _=>true) true n 9 (([c0,c1].drop 0).take (Tryz.prog.cellsOf 9))=some y0:=hf 0 _ rfl
 rw [cStr] at e0
 have e1:DataW.trod enc Tryz.prog w 0 (fun _=>true) true n 9 (([c0,c1].drop 1).take (Tryz.prog.cellsOf 9))=some y1:=hf 1 _ rfl
 rw [cStr] at e1
 cases hx
 obtain ⟨s0,r0,q0⟩:=uZ Tryz.underlying9 H enc w n _ _ _ e0
 obtain ⟨s1,r1,q1⟩:=uZ Tryz.underlying9 H enc w n _ _ _ e1
 have r0':[c0]=[vs s0]:=r0 (fun _=>True) (fun _ _=>trivial)
 have r1':[c1]=[vs s1]:=r1 (fun _=>True) (fun _ _=>trivial)
 cases r0'
 cases r1'
 exact ⟨(s0,s1),fun _ _=>rfl,_,_,rfl,q0,q1⟩
theorem TL:Opens Tryz.prog 49 (rSl rPr 2) (wP V7):=vH Tryz.underlying49 cPr (by decide) Wh
theorem Wi:Opens Tryz.prog 51 rNd V8:=by
 intro H enc w fuel cs d ps h
 obtain ⟨xs,n,rfl,hx,hl,hlen,hf⟩:=DataW.trod_struct Tryz.underlying51 h
 rw [cNd] at hl
 obtain ⟨c0,c1,c2,rfl⟩:=aaU hl
 obtain ⟨y0,y1,y2,rfl⟩:=aaU (show xs.length=3 from hlen)
 have e0:DataW.trod enc Tryz.prog w 0 (fun _=>true) true n 3 (([c0,c1,c2].drop 0).take (Tryz.prog.cellsOf 3))=some y0:=hf 0 _ rfl
 rw [afM] at e0
 have e1:DataW.trod enc Tryz.prog w 0 (fun _=>true) true n 9 (([c0,c1,c2].drop 1).take (Tryz.prog.cellsOf 9))=some y1:=hf 1 _ rfl
 rw [cStr] at e1
 have e2:DataW.trod enc Tryz.prog w 0 (fun _=>true) true n 49 (([c0,c1,c2].drop 2).take (Tryz.prog.cellsOf 49))=some y2:=hf 2 _ rfl
 rw [afO] at e2
 cases hx
 obtain ⟨s0,r0,q0⟩:=yx Tryz.underlying3 H enc w n _ _ _ e0
 obtain ⟨s1,r1,q1⟩:=uZ Tryz.underlying9 H enc w n _ _ _ e1
 obtain ⟨s2,r2,q2⟩:=TL H enc w n _ _ _ e2
 have r0':[c0]=[vi s0]:=r0 (fun _=>True) (fun _ _=>trivial)
 have r1':[c1]=[vs s1]:=r1 (fun _=>True) (fun _ _=>trivial)
 cases r0'
 cases r1'
 refine ⟨⟨s0,s1,s2⟩,fun Pb hP=>?_,_,_,_,rfl,q0,q1,q2⟩
 obtain ⟨v,hv,hr⟩:=r2 Pb fun p hp=>hP p (by simp;exact .inr (.inr hp))
 have hv':[c2]=[v]:=hv
 cases hv'
 exact ⟨c2,rfl,hr⟩
theorem TM:Opens Tryz.prog 22 (rSl rNd 3) (wP V8):=vH Tryz.underlying22 cNd (by decide) Wi
theorem Di:Opens Tryz.prog 24 (rSl (Wk.one vs) 1) (wP vT):=vH Tryz.underlying24 cStr (by decide) (uZ Tryz.underlying9)
theorem Wj:Opens Tryz.prog 69 rCd V9:=by
 intro H enc w fuel cs d ps h
 obtain ⟨xs,n,rfl,hx,hl,hlen,hf⟩:=DataW.trod_struct Tryz.underlying69 h
 rw [cCd] at hl
 obtain ⟨c0,c1,c2,c3,c4,c5,c6,rfl⟩:=aaW hl
 obtain ⟨y0,y1,y2,y3,y4,y5,y6,rfl⟩:=aaW (show xs.length=7 from hlen)
 have e0:DataW.trod enc Tryz.prog w 0 (fun _=>true) true n 9 (([c0,c1,c2,c3,c4,c5,c6].drop 0).take (Tryz.prog.cellsOf 9))=some y0:=hf 0 _ rfl
 rw [cStr] at e0
 have e1:DataW.trod enc Tryz.prog w 0 (fun _=>true) true n 9 (([c0,c1,c2,c3,c4,c5,c6].drop 1).take (Tryz.prog.cellsOf 9))=some y1:=hf 1 _ rfl
 rw [cStr] at e1
 have e2:DataW.trod enc Tryz.prog w 0 (fun _=>true) true n 5 (([c0,c1,c2,c3,c4,c5,c6].drop 2).take (Tryz.prog.cellsOf 5))=some y2:=hf 2 _ rfl
 rw [cU8] at e2
 have e3:DataW.trod enc Tryz.prog w 0 (fun _=>true) true n 24 (([c0,c1,c2,c3,c4,c5,c6].drop 3).take (Tryz.prog.cellsOf 24))=some y3:=hf 3 _ rfl
 rw [V6] at e3
 have e4:DataW.trod enc Tryz.prog w 0 (fun _=>true) true n 66 (([c0,c1,c2,c3,c4,c5,c6].drop 4).take (Tryz.prog.cellsOf 66))=some y4:=hf 4 _ rfl
 rw [cI8] at e4
 have e5:DataW.trod enc Tryz.prog w 0 (fun _=>true) true n 9 (([c0,c1,c2,c3,c4,c5,c6].drop 5).take (Tryz.prog.cellsOf 9))=some y5:=hf 5 _ rfl
 rw [cStr] at e5
 have e6:DataW.trod enc Tryz.prog w 0 (fun _=>true) true n 67 (([c0,c1,c2,c3,c4,c5,c6].drop 6).take (Tryz.prog.cellsOf 67))=some y6:=hf 6 _ rfl
 rw [afN] at e6
 cases hx
 obtain ⟨s0,r0,q0⟩:=uZ Tryz.underlying9 H enc w n _ _ _ e0
 obtain ⟨s1,r1,q1⟩:=uZ Tryz.underlying9 H enc w n _ _ _ e1
 obtain ⟨s2,r2,q2⟩:=yx Tryz.underlying5 H enc w n _ _ _ e2
 obtain ⟨s3,r3,q3⟩:=Di H enc w n _ _ _ e3
 obtain ⟨s4,r4,q4⟩:=yx Tryz.underlying66 H enc w n _ _ _ e4
 obtain ⟨s5,r5,q5⟩:=uZ Tryz.underlying9 H enc w n _ _ _ e5
 obtain ⟨s6,r6,q6⟩:=yx Tryz.underlying67 H enc w n _ _ _ e6
 have r0':[c0]=[vs s0]:=r0 (fun _=>True) (fun _ _=>trivial)
 have r1':[c1]=[vs s1]:=r1 (fun _=>True) (fun _ _=>trivial)
 have r2':[c2]=[.int .u8 s2]:=r2 (fun _=>True) (fun _ _=>trivial)
 have r4':[c4]=[.int .i8 s4]:=r4 (fun _=>True) (fun _ _=>trivial)
 have r5':[c5]=[vs s5]:=r5 (fun _=>True) (fun _ _=>trivial)
 have r6':[c6]=[.int .i16 s6]:=r6 (fun _=>True) (fun _ _=>trivial)
 cases r0'
 cases r1'
 cases r2'
 cases r4'
 cases r5'
 cases r6'
 refine ⟨⟨s0,s1,s2,s3,s4,s5,s6⟩,fun Pb hP=>?_,_,_,_,_,_,_,_,rfl,q0,q1,q2,q3,q4,q5,q6⟩
 obtain ⟨v,hv,hr⟩:=r3 Pb fun p hp=>hP p (by simp;exact .inr (.inr (.inr (.inl hp))))
 have hv':[c3]=[v]:=hv
 cases hv'
 exact ⟨c3,rfl,hr⟩
theorem TN:Opens Tryz.prog 23 (rSl rCd 7) (wP V9):=vH Tryz.underlying23 cCd (by decide) Wj
theorem Wp:Opens Tryz.prog 26 rGv X4:=by
 intro H enc w fuel cs d ps h
 obtain ⟨xs,n,rfl,hx,hl,hlen,hf⟩:=DataW.trod_struct Tryz.underlying26 h
 rw [cGv] at hl
 obtain ⟨c0,c1,c2,c3,rfl⟩:=aaV hl
 obtain ⟨y0,y1,y2,y3,rfl⟩:=aaV (show xs.length=4 from hlen)
 have e0:DataW.trod enc Tryz.prog w 0 (fun _=>true) true n 22 (([c0,c1,c2,c3].drop 0).take (Tryz.prog.cellsOf 22))=some y0:=hf 0 _ rfl
 rw [afP] at e0
 have e1:DataW.trod enc Tryz.prog w 0 (fun _=>true) true n 23 (([c0,c1,c2,c3].drop 1).take (Tryz.prog.cellsOf 23))=some y1:=hf 1 _ rfl
 rw [afQ] at e1
 have e2:DataW.trod enc Tryz.prog w 0 (fun _=>true) true n 24 (([c0,c1,c2,c3].drop 2).take (Tryz.prog.cellsOf 24))=some y2:=hf 2 _ rfl
 rw [V6] at e2
 have e3:DataW.trod enc Tryz.prog w 0 (fun _=>true) true n 24 (([c0,c1,c2,c3].drop 3).take (Tryz.prog.cellsOf 24))=some y3:=hf 3 _ rfl
 rw [V6] at e3
 cases hx
 obtain ⟨s0,r0,q0⟩:=TM H enc w n _ _ _ e0
 obtain ⟨s1,r1,q1⟩:=TN H enc w n _ _ _ e1
 obtain ⟨s2,r2,q2⟩:=Di H enc w n _ _ _ e2
 obtain ⟨s3,r3,q3⟩:=Di H enc w n _ _ _ e3
 refine ⟨⟨s0,s1,s2,s3⟩,fun Pb hP=>?_,_,_,_,_,rfl,q0,q1,q2,q3⟩
 obtain ⟨v0,hv0,hr0⟩:=r0 Pb fun p hp=>hP p (by simp;exact .inl hp)
 obtain ⟨v1,hv1,hr1⟩:=r1 Pb fun p hp=>hP p (by simp;exact .inr (.inl hp))
 obtain ⟨v2,hv2,hr2⟩:=r2 Pb fun p hp=>hP p (by simp;exact .inr (.inr (.inl hp)))
 obtain ⟨v3,hv3,hr3⟩:=r3 Pb fun p hp=>hP p (by simp;exact .inr (.inr (.inr hp)))
 have h0:[c0]=[v0]:=hv0
 have h1:[c1]=[v1]:=hv1
 have h2:[c2]=[v2]:=hv2
 have h3:[c3]=[v3]:=hv3
 cases h0
 cases h1
 cases h2
 cases h3
 exact ⟨c0,c1,c2,c3,rfl,hr0,hr1,hr2,hr3⟩
theorem YX {l:List Nat} {x:Nat} (h:x∈l):x≤l.sum:=by
 induction l with
 |nil=>simp at h
 |cons y r ih=>
  simp only [List.sum_cons]
  rcases List.mem_cons.1 h with rfl|h
  ·omega
  ·have:=ih h;omega
theorem Ef {α:Type} {D:Dat α} {H:Type} {xs:List α} {d:DataW H} (μ:α→Nat) (hμ: ∀x d,D H x d→μ x≤Rows.uptoBulk d) (h:wP D H xs d): ∀x∈xs,μ x≤Rows.uptoBulk d:=fun x hx=>
 Nat.le_trans (YX (List.mem_map.2 ⟨x,hx,rfl⟩:μ x∈xs.map μ)) (Qn μ hμ h)
theorem X5 {H:Type} {g:Giv} {d:DataW H} (h:X4 H g d) (hb:Rows.uptoBulk d≤1048576):SzG g∧Qh g:=by
 obtain ⟨d0,d1,d2,d3,rfl,h0,h1,h2,h3⟩:=h
 simp only [Rows.uptoBulk,Rows.uptoBulkAll] at hb
 have a0:=zN h0
 have a1:=zN h1
 have a2:=zN h2
 have a3:=zN h3
 have b0:=Ef (fun x:Nd=>x.nZ.length) (fun x d ⟨e0,e1,e2,e,p0,p1,p2⟩=>by
  subst e
  have:=zN p2
  simp only [Rows.uptoBulk,Rows.uptoBulkAll];omega) h0
 have b1:=Ef (fun x:Cd=>x.compat.length) (fun x d ⟨e0,e1,e2,e3,e4,e5,e6,e,p0,p1,p2,p3,_⟩=>by
  subst e
  have:=zN p3
  simp only [Rows.uptoBulk,Rows.uptoBulkAll];omega) h1
 have b2:=Ef (fun x:List UInt8=>x.length) (fun x d p=>by have:=N7 x d p;omega) h2
 have b3:=Ef (fun x:List UInt8=>x.length) (fun x d p=>by have:=N7 x d p;omega) h3
 exact ⟨⟨by omega,fun x hx=>by have:=b0 x hx;omega,by omega,fun x hx=>by have:=b1 x hx;omega,by omega,by omega⟩,⟨fun x hx=>by have:=b2 x hx;omega,fun x hx=>by have:=b3 x hx;omega⟩⟩
theorem cells4 {cs:Array Value} {a b c d:Value} (h:(Value.agg cs).cells.toList=[a,b,c,d]):cs= #[a,b,c,d]:=by
 have:cs.toList=[a,b,c,d]:=h
 cases cs;simp_all
end Go.Proofs.YtjecgaiaiophpaaGreatDoor
namespace Go.Proofs.YtjecgaiaiophpaaGreatDoor
open Go
theorem tt {a b:Bool} (ha:a=true) (hb:b=true):(a&&b)=true:=by rw [ha,hb];rfl
theorem TP {P:Program} {f:FuncId} {fn:Func} {s:ChangeSpec} {c:OpenClaim}
 (h1:c.wf (OpenSpec.ofChange s)=true) (h2:laidOutB P=true) (h3:mapsRowed P=true) (h4:fn.params.all (P.readableRec ·)=true) (h5:namedTie P c.named s.vars=true)
 (h6:(c.stops == [])=true) (h7:(P.stops == [])=true) (h8:(c.knobs == [])=true) (h9:(P.stopKnobs == [])=true)
 (h10:(c.inPlace == P.inPlace f)=true) (h11:(c.unfollowed == P.unfollowed f)=true) (h12:(c.recurses == P.recurses f)=true) (h13:(c.named == P.varsNamed f)=true)
 (h14:(c.maps == (fn.params.toList++s.plain.varTypes P).any (P.mapsRec ·))=true) (h15:(c.ifaces == (fn.params.toList++s.plain.varTypes P).any (P.ifacesRec ·))=true) (h16:(c.mapsOut == P.mapsAmong fn.resultTypes.toList)=true)
 (h17:(c.loops == (fn.params.toList++s.plain.varTypes P).any (P.loopsFrom ·))=true) (h18:(c.wideKeys == (fn.params.toList++s.plain.varTypes P++fn.resultTypes.toList).any (P.wideKeysFrom ·))=true)
 (h19:s.vars.all (P.varReadable ·)=true) (h20:fn.resultTypes.all (fun t=>P.readableRec t&&decide (t<P.types.size))=true) (h21:(c.ifacesOut == fn.resultTypes.toList.any (P.ifacesRec ·))=true) (h22:(c.loopsOut == fn.resultTypes.toList.any (P.loopsFrom ·))=true)
 (h23:(c.plainKeys == P.plainKeys)=true) (h24:c.shortTexts.isNone=true) (h25:P.stopsHeard=true) (h26:P.mayEnter=true) (h27:(c.lifted == P.liftsFinal)=true) (h28:(P.make == some c.make)=true)
 (h29:(c.kinds == (if c.domain.isEmpty then [] else fn.params.toList.map fun t=>match P.underlying t with|some (.int k)=>some k|_=>none))=true) (h30:(c.pinned == c.pinnedBy)=true)
 (h31:(c.veiled == (fn.params.toList++s.plain.varTypes P++fn.resultTypes.toList).any (P.veiledRec ·))=true) (h32:c.veiledFits P fn.params.toList (fn.params.toList++s.plain.varTypes P++fn.resultTypes.toList)=true):joinedFacts P f fn s c=true:=by
 unfold joinedFacts
 exact tt (tt (tt (tt (tt (tt (tt (tt (tt (tt (tt (tt (tt (tt (tt (tt (tt (tt (tt (tt (tt (tt (tt (tt (tt (tt (tt (tt (tt (tt (tt h1 h2) h3) h4) h5) h6) h7) h8) h9) h10) h11) h12) h13) h14) h15) h16) h17) h18) h19) h20) h21) h22) h23) h24) h25) h26) h27) h28) h29) h30) h31) h32
theorem aaX:mapsRowed Tryz.prog=true:=by kernel_rfl
theorem aaY:laidOutB Tryz.prog=true:=by kernel_rfl
theorem afR:Tryz.prog.mayEnter=true:=by kernel_rfl
theorem YZ:Tryz.prog.stopsHeard=true:=by kernel_rfl
end Go.Proofs.YtjecgaiaiophpaaGreatDoor
