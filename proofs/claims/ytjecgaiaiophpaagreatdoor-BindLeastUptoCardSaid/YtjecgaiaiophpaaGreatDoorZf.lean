/-
  Texts of this claim, one behind the other: L4, G9, I1, I7, I8, I9, K1, V1, V2, K2, Bulk, I2, I3.
-/
import Derived.Test.YtjecgaiaiophpaaGreatDoorZe
import Derived.Test.YtjecgaiaiophpaaGreatDoorRows
import Derived.ChangeSame
import Derived.ProofKit
import Derived.JoinedCond
set_option linter.all false
set_option maxHeartbeats 16000000
set_option maxRecDepth 8000
namespace Go.Proofs.YtjecgaiaiophpaaGreatDoor
open Go Wk
def uM:Nm:=[111,115,99]
def cell1:List UInt8:=[0,0,0,1]
def awT:List Nd:=[⟨-1,[],[]⟩,⟨0,uM,[⟨qA,[107,0]⟩,⟨uT,cell1⟩]⟩,⟨0,[97],[⟨qA,[107,0]⟩,⟨[99,108,111,99,107,115],cell1⟩]⟩]
def awC:List Cd:=[⟨[107],[102],1,[[107]],0,[], -1⟩]
def awE:Ed:=⟨2,some 1,1,false,0,[]⟩
theorem VS:oG awT=true:=by decide+kernel
theorem YZ:uw awC=true:=by decide+kernel
theorem IE {t:List Nd}: ∀(l:List Nat),(∀n∈l,ofM t n=some [])→uj t [] l=([],[])
 | [],_=>by rw [uj]
 |n::r,h=>by
  rw [uj,h n List.mem_cons_self]
  exact IE r fun m hm=>h m (List.mem_cons_of_mem _ hm)
theorem Le {cs:List Cd} {t:List Nd} (h: ∀n,n<t.length→ofM t n=some []):qM cs t=([],[]):=by
 unfold qM
 refine IE _ fun n hn=>h n ?_
 unfold DK at hn
 rw [List.mem_mergeSort,List.mem_filter,List.mem_range] at hn
 exact hn.1
theorem VT {t:List Nd} {i:Nat} (h:WO t i=some []):ofM t i=some []:=by
 unfold ofM
 rw [h]
 simp [qW]
theorem Rch.less {W:Nat→List Nat} (h: ∀i k,k∈W i→k<i) {a b:Nat} (r:Rch W a b):b<a:=by
 induction r with
 |one h1=>exact h _ _ h1
 |more _ h1 ih=>exact Nat.lt_trans (h _ _ h1) ih
theorem En {W:Nat→List Nat} {order:List Nat} (h: ∀i, ¬Rch W i i): ∀(l seen:List Nat),rO W order seen l=[]
 | [],seen=>by rw [rO]
 |i::r,seen=>by rw [rO,if_pos (.inr (h i))];exact En h r seen
theorem NU {t:List Nd} (h: ∀i k,k∈pR t i→k<i):rJ t=[]:=En (fun i r=>Nat.lt_irrefl _ (Rch.less h r)) _ _
theorem NV {g:Giv} {i:Nat} (ho:onM g.tree i=true) (hc:qK g.tree i=true→qP g.cards g.tree i≠none) (hd:(qM g.cards g.tree).2=[]) (he: ∀e∈nZ g.tree,e.dst≠none) (hr:rJ g.tree=[]) (hg:uX g i=none):firstM g i=(0, -1):=by
 unfold firstM
 dsimp only
 rw [if_neg (by rw [ho];decide),if_neg (fun e=>hc e.1 e.2),hd,hr]
 have h1:(if qK g.tree i=true then F8 [] i else none)=none:=by split<;>rfl
 have h2:(if qK g.tree i=true then Di [] i else none)=none:=by split<;>rfl
 rw [h1,h2,hg]
 dsimp only
 rw [if_neg]
 rintro ⟨_,e,h3,_,_,h4⟩
 exact he e h3 h4
theorem P6 {g:Giv} (h:g.gone=[]) (i:Nat):uX g i=none:=by
 unfold uX
 rw [List.find?_eq_none,h]
 intro k _ e
 simp at e
theorem Eo:nZ awT=[awE]:=by decide+kernel
theorem VU:qM awC awT=([],[]):=by
 refine Le fun n hn=>VT ?_
 have:n=0∨n=1∨n=2:=by have:awT.length=3:=rfl;omega
 rcases this with rfl|rfl|rfl<;>decide+kernel
theorem Xy:rJ awT=[]:=by
 refine NU fun i k hk=>?_
 unfold pR at hk
 rw [Eo] at hk
 rcases List.mem_append.1 hk with hk|hk
 ·split at hk
  ·rename_i h0
   rw [List.mem_singleton.1 hk]
   by_cases hi:i<awT.length
   ·exact (uf VS (by omega) hi).1
   ·have:par awT i=0:=by
     unfold par ndA
     rw [List.getD_eq_getElem?_getD,List.getElem?_eq_none (by omega)];rfl
    omega
  ·cases hk
 ·obtain ⟨e,he,h⟩:=List.mem_filterMap.1 hk
  rw [List.mem_singleton.1 he] at h
  split at h
  ·rename_i hc
   cases h
   rw [←hc.1];decide
  ·cases h
def awN:Nat→Bn:=fun i=>match i with
 |0=>⟨[47],false,0,0,none, -1,[]⟩
 |1=>⟨47::uM,true,1,0,some 0, -1,[0]⟩
 |2=>⟨[47,97],true,1,0,some 0, -1,[0,1]⟩
 |_=>default
theorem VW (fails:List Nm):nR ⟨awT,awC,fails,[]⟩=awN:=by
 funext i
 have hl:awT.length=3:=rfl
 have hf: ∀i,onM awT i=true→(qK awT i=true→qP awC awT i≠none)→firstM ⟨awT,awC,fails,[]⟩ i=(0, -1):=fun i h1 h2=>
  NV h1 h2 (by rw [VU]) (fun e he=>by rw [Eo] at he;rw [List.mem_singleton.1 he];decide) Xy (P6 rfl i)
 match i with
 |0=>
  rw [wu (by show 0<3;omega)]
  unfold wL
  rw [hf 0 (by decide+kernel) (by decide+kernel)]
  have h1:qK awT 0=false:=by decide+kernel
  have h2:oO awT 0=[47]:=by decide+kernel
  have h3:zf awT 0=[]:=by unfold zf;rw [Eo];decide+kernel
  dsimp only
  rw [h1,h2,h3];rfl
 |1=>
  rw [wu (by show 1<3;omega)]
  unfold wL
  rw [hf 1 (by decide+kernel) (by decide+kernel)]
  have h1:qK awT 1=true:=by decide+kernel
  have h2:oO awT 1=47::uM:=by decide+kernel
  have h3:zf awT 1=[]:=by unfold zf;rw [Eo];decide+kernel
  have h4:qP awC awT 1=some 0:=by decide+kernel
  have h5:par awT 1=0:=by decide+kernel
  dsimp only
  rw [h1,h2,h3,h4,h5];rfl
 |2=>
  rw [wu (by show 2<3;omega)]
  unfold wL
  rw [hf 2 (by decide+kernel) (by decide+kernel)]
  have h1:qK awT 2=true:=by decide+kernel
  have h2:oO awT 2=[47,97]:=by decide+kernel
  have h3:zf awT 2=[1]:=by unfold zf;rw [Eo];decide+kernel
  have h4:qP awC awT 2=some 0:=by decide+kernel
  have h5:par awT 2=0:=by decide+kernel
  dsimp only
  rw [h1,h2,h3,h4,h5];rfl
 |n+3=>rw [Iz (by show ¬n+3<3;omega)];rfl
theorem Q9:qm awN 3=[0,2,1]:=by
 have:(List.range 3).filter (fun i=>decide ((awN i).reason=0))=[0,1,2]:=by decide+kernel
 unfold qm
 rw [this]
 have h12:(!decide (ru (fun i=>(awN i).level) (fun i=>(awN i).path) 2 1<0))=false:=by decide+kernel
 have h01:(!decide (ru (fun i=>(awN i).level) (fun i=>(awN i).path) 1 0<0))=true:=by decide+kernel
 have h02:(!decide (ru (fun i=>(awN i).level) (fun i=>(awN i).path) 2 0<0))=true:=by decide+kernel
 simp [List.mergeSort,List.MergeSort.Internal.splitInTwo,List.merge,List.splitAt,List.splitAt.go] at*
 simp [*]
section
variable {N:Nat→Bn} {fl fl':Nm→Bool} (h: ∀i,((N i).device&&fl (N i).path)=((N i).device&&fl' (N i).path))
include h
theorem VX (S:St) (i:Nat):qY N fl S i=qY N fl' S i:=by unfold qY;rw [h]
theorem Dp: ∀(l:List Nat) (S:St),oI N fl l S=oI N fl' l S
 | [],S=>by rw [oI,oI]
 |i::r,S=>by
  rw [sQ,sQ,VX h,Dp r S]
  cases qY N fl' S i with
  |none=>rfl
  |some S'=>dsimp only;rw [Dp r S']
theorem E9 (order:List Nat): ∀(f:Nat) (S:St),doneGo N fl order f S=doneGo N fl' order f S
 |0,S=>by rw [doneGo,doneGo]
 |f+1,S=>by rw [uH,uH,Dp h,E9 order f]
end
theorem Xz {fl:Nm→Bool} (h:fl [47,97]=false) (h2:fl (47::uM)=false):(rowOf awN (rG awN fl 3).2 2).1=0:=by
 unfold rG
 rw [E9 (fl':=fun _=>false),Q9]
 ·decide+kernel
 ·intro i
  match i with
  |0=>rfl
  |1=>exact h2
  |2=>exact h
  |n+3=>rfl
theorem XA {fl:Nm→Bool} (h:fl [47,97]=false) (h2:fl (47::uM)=true):(rG awN fl 3).1.length=2∧(rowOf awN (rG awN fl 3).2 1).1=7∧rowOf awN (rG awN fl 3).2 2=(8,some 0,1):=by
 unfold rG
 rw [E9 (fl':=fun s=>decide (s=47::uM)),Q9]
 ·decide+kernel
 ·intro i
  match i with
  |0=>rfl
  |1=>exact h2
  |2=>exact h
  |n+3=>rfl
end Go.Proofs.YtjecgaiaiophpaaGreatDoor
namespace Go.Proofs.YtjecgaiaiophpaaGreatDoor
open Go Wk
open Go.RowKit (Below)
attribute [local irreducible] Go.Calls
theorem vK (g:Giv):(tN g).length=g.tree.length:=by unfold tN rowsOf;rw [List.length_map,List.length_range]
theorem vM {g:Giv} {i:Nat} (h:i<g.tree.length):(tN g)[i]? =some (rowOf (nR g) (pV g).2 i):=by unfold tN rowsOf;rw [List.getElem?_map,List.getElem?_range h];rfl
theorem VY (fails:List Nm) (h:fails.length≤512):ql ⟨awT,awC,fails,[]⟩=0:=wo.2 ⟨VS,YZ,h,Nat.zero_le _⟩
theorem NW (fails:List Nm) (h: ∀x∈fails,x.length≤100000000):NR ⟨awT,awC,fails,[]⟩:=⟨h,fun x hx=>by cases hx⟩
theorem IG {w:World}:Calls Tryz.prog 12 #[] w (Ret fun r w'=>r=.bool true∧New w w'):=by
 refine nI Tryz.func12 rfl Tryz.ntmps12 rfl ?_
 (repeat' (first|refine aa1 ?_|refine af ?_|refine ah ?_|refine au ?_|refine ak ?_))
 refine bV (ps:=[(0,.const (vi (-1)))]) (parts:=[(0,vi (-1))]) rfl rfl (by simp [Value.cells]) ?_
 refine bV (ps:=[(0,.const (vs qA)),(1,.const (vs [107,0]))]) (parts:=[(0,vs qA),(1,vs [107,0])]) rfl rfl (by simp [Value.cells]) ?_
 (repeat' (refine aa0 ?_))
 refine bV (ps:=[(0,.const (vs uT)),(1,.tmp 10)]) (parts:=[(0,vs uT),(1,vs cell1)]) rfl rfl (by simp [Value.cells]) ?_
 refine iE (R:=rPr) (N:=2) (ps:=[(0,.tmp 9),(1,.tmp 11)]) (xs:=[(qA,[107,0]),(uT,cell1)]) (us:=[.agg (pC (qA,[107,0])).toArray,.agg (pC (uT,cell1)).toArray]) (Pe:=NoB) rH rfl rfl ⟨rfl,rfl,rfl,rfl,trivial⟩ (by simp) (by simp) fun v1 w1 o1 n1 s1 ob1=>?_
 obtain ⟨a1,c1,rfl,_,_⟩:=o1.form
 refine bV (ps:=[(1,.const (vs uM)),(2,.tmp 12)]) (parts:=[(1,vs uM),(2,.slice a1 2 c1)]) rfl rfl (by simp [Value.cells]) ?_
 refine bV (ps:=[(0,.const (vs qA)),(1,.const (vs [107,0]))]) (parts:=[(0,vs qA),(1,vs [107,0])]) rfl rfl (by simp [Value.cells]) ?_
 (repeat' (refine aa0 ?_))
 refine bV (ps:=[(0,.const (vs [99,108,111,99,107,115])),(1,.tmp 15)]) (parts:=[(0,vs [99,108,111,99,107,115]),(1,vs cell1)]) rfl rfl (by simp [Value.cells]) ?_
 refine iE (R:=rPr) (N:=2) (ps:=[(0,.tmp 14),(1,.tmp 16)]) (xs:=[(qA,[107,0]),([99,108,111,99,107,115],cell1)]) (us:=[.agg (pC (qA,[107,0])).toArray,.agg (pC ([99,108,111,99,107,115],cell1)).toArray]) (Pe:=NoB) rH rfl rfl ⟨rfl,rfl,rfl,rfl,trivial⟩ (by simp) (by simp) fun v2 w2 o2 n2 s2 ob2=>?_
 obtain ⟨a2,c2,rfl,_,_⟩:=o2.form
 refine bV (ps:=[(1,.const (vs [97])),(2,.tmp 17)]) (parts:=[(1,vs [97]),(2,.slice a2 2 c2)]) rfl rfl (by simp [Value.cells]) ?_
 let LT:List (Nd×SV):=[(⟨-1,[],[]⟩,(none,0,0)),(⟨0,uM,[(qA,[107,0]),(uT,cell1)]⟩,(a1,2,c1)),(⟨0,[97],[(qA,[107,0]),([99,108,111,99,107,115],cell1)]⟩,(a2,2,c2))]
 refine iE (R:=flat noV) (N:=3) (ps:=[(0,.tmp 8),(1,.tmp 13),(2,.tmp 18)]) (xs:=LT) (us:=LT.map fun p=>.agg (noV p).toArray) (Pe:=NoB) Gm rfl rfl ⟨rfl,rfl,rfl,rfl,rfl,rfl,trivial⟩ (by simp [LT]) (by simp [LT]) fun v3 w3 o3 n3 s3 ob3=>?_
 obtain ⟨a3,c3,rfl,_,_⟩:=o3.form
 have hT:RdS rNd 3 (fun _=>True) w3 (.slice a3 3 c3) awT:=by
  have h1:=(o3.rd (nP noV)).mono (Pb':=fun _=>True) (nP noV) fun _ _ _=>trivial
  refine Gp (R':=rNd) (fun p:Nd×SV=>p.1) h1 fun x hx cs hcs=>⟨svV x.2,hcs,?_⟩
  have n13:=New.trans n2 n3
  simp only [LT,List.mem_cons,List.not_mem_nil,or_false] at hx
  rcases hx with rfl|rfl|rfl
  ·exact eU
  ·exact ((o1.new (nH pC) n13).rd (nP pC)).mono (nP pC) fun _ _ _=>trivial
  ·exact ((o2.new (nH pC) n3).rd (nP pC)).mono (nP pC) fun _ _ _=>trivial
 (repeat' (first|refine aa1 ?_|refine af ?_|refine ah ?_|refine au ?_|refine ak ?_))
 refine bT (R:=Wk.one vs) (Pe:=NoB) (y:=[107]) qR rfl rfl rfl rfl (by omega) (by omega) fun v4 w4 o4 n4 s4 e4=>?_
 obtain ⟨a4,c4,rfl,_,_⟩:=o4.form
 refine bV (ps:=[(0,.const (vs [107])),(1,.const (vs [102])),(2,.const (.int .u8 1)),(3,.tmp 20),(6,.const (.int .i16 (-1)))]) (parts:=[(0,vs [107]),(1,vs [102]),(2,.int .u8 1),(3,.slice a4 1 c4),(6,.int .i16 (-1))]) rfl rfl (by simp [Value.cells]) ?_
 refine bT (R:=flat cdV) (Pe:=NoB) (y:=(⟨[107],[102],1,[[107]],0,[], -1⟩,(a4,1,c4))) Gn rfl rfl rfl rfl (by omega) (by omega) fun v5 w5 o5 n5 s5 e5=>?_
 obtain ⟨a5,c5,rfl,_,_⟩:=o5.form
 have hC:RdS rCd 7 (fun _=>True) w5 (.slice a5 1 c5) awC:=by
  have h1:=(o5.rd (nP cdV)).mono (Pb':=fun _=>True) (nP cdV) fun _ _ _=>trivial
  refine Gp (R':=rCd) (fun p:Cd×SV=>p.1) h1 fun x hx cs hcs=>⟨svV x.2,hcs,?_⟩
  simp only [List.mem_cons,List.not_mem_nil,or_false] at hx
  subst hx
  exact ((o4.new (nM _) n5).rd qR.mo).mono (nU _) fun _ _ _=>trivial
 have n35:=New.trans n4 n5
 have n05:=New.trans n1 (New.trans n2 (New.trans n3 n35))
 have r5:RdG (fun _=>True) w5 ⟨awT,awC,[],[]⟩ (.slice a3 3 c3) (.slice a5 1 c5) (.slice none 0 0) (.slice none 0 0):=⟨hT.keep oz n35.keep,hC,eU,eU⟩
 clear o1 o2 o3 o4 o5 hT hC n1 n2 n3 n4 n5 n35
 (repeat' (first|refine aa0 ?_|refine aa1 ?_|refine af ?_|refine ah ?_|refine au ?_|refine ak ?_))
 refine bV (ps:=[(0,.tmp 24),(1,.tmp 25)]) (parts:=[(0,.slice a3 3 c3),(1,.slice a5 1 c5)]) rfl rfl (by simp [Value.cells]) ?_
 refine aB (E8 r5 (NW [] (by simp))) rfl ?_
 rintro _ w6 ⟨hr,n6⟩
 unfold xM at hr
 rw [if_pos (VY [] (by simp))] at hr
 obtain ⟨ra,rb,rc,rd,rfl,hR⟩:=hr
 obtain ⟨⟨p1,q1,rfl⟩,⟨p2,q2,rfl⟩,⟨p3,q3,rfl⟩,⟨p4,q4,rfl⟩⟩:=hR.form
 (repeat' (first|refine aa0 ?_|refine pG ?_))
 refine Wl.alloc fun w7 b7 n7 s7=>?_
 refine aX (new:=[.slice p1 _ q1,.slice p2 _ q2,.slice p3 _ q3,.slice p4 _ q4]) b7 rfl rfl rfl rfl (show (4:Nat)≤4 from Nat.le_refl 4) (by intro c hc;simp at hc;rcases hc with rfl|rfl|rfl|rfl<;>rfl) fun w8 b8 c8 s8=>?_
 have n68:New w6 w8:=(Chg.trans n7.any c8 fun _ _ e=>e).toNew fun k hk e=>by omega
 clear b7 n7 c8
 have n58:=New.trans n6 n68
 have hR8:=hR.new n68
 (repeat' (first|refine aa0 ?_|refine aa1 ?_|refine af ?_|refine ah ?_|refine au ?_|refine ak ?_))
 refine bT (R:=Wk.one vs) (Pe:=NoB) (y:=47::uM) qR rfl rfl rfl rfl (by omega) (by omega) fun v9 w9 o9 n9 s9 e9=>?_
 obtain ⟨a9,c9,rfl,_,_⟩:=o9.form
 have r9:RdG (fun _=>True) w9 ⟨awT,awC,[47::uM],[]⟩ (.slice a3 3 c3) (.slice a5 1 c5) (.slice a9 1 c9) (.slice none 0 0):=
  ⟨r5.t.keep oz (New.trans n58 n9).keep,r5.c.keep pW (New.trans n58 n9).keep,(o9.rd qR.mo).mono (nU _) fun _ _ _=>trivial,eU⟩
 refine bV (ps:=[(0,.tmp 31),(1,.tmp 32),(2,.tmp 33)]) (parts:=[(0,.slice a3 3 c3),(1,.slice a5 1 c5),(2,.slice a9 1 c9)]) rfl rfl (by simp [Value.cells]) ?_
 refine aB (E8 r9 (NW [47::uM] (by intro x hx;rw [List.mem_singleton.1 hx];decide))) rfl ?_
 rintro _ w10 ⟨hs,n10⟩
 unfold xM at hs
 rw [if_pos (VY [47::uM] (by simp))] at hs
 obtain ⟨sa,sb,sc,sd,rfl,hS⟩:=hs
 obtain ⟨⟨t1,u1,rfl⟩,⟨t2,u2,rfl⟩,⟨t3,u3,rfl⟩,⟨t4,u4,rfl⟩⟩:=hS.form
 (repeat' (first|refine aa0 ?_|refine pG ?_))
 refine Wl.alloc fun w11 b11 n11 s11=>?_
 refine aX (new:=[.slice t1 _ u1,.slice t2 _ u2,.slice t3 _ u3,.slice t4 _ u4]) b11 rfl rfl rfl rfl (show (4:Nat)≤4 from Nat.le_refl 4) (by intro c hc;simp at hc;rcases hc with rfl|rfl|rfl|rfl<;>rfl) fun w12 b12 c12 s12=>?_
 have JB:New w10 w12:=(Chg.trans n11.any c12 fun _ _ e=>e).toNew fun k hk e=>by omega
 clear b11 n11 c12
 have XB:=New.trans n9 (New.trans n10 JB)
 have b8':=b8.chg XB fun e=>e
 have hR':=hR8.new XB
 have hS':=hS.new JB
 have afL:=New.trans n05 (New.trans n58 XB)
 clear r5 r9 o9 hR hS hR8 b8 n6 n9 n10 n68 n58 XB JB n05
 have lR:(tN ⟨awT,awC,[],[]⟩).length=3:=vK _
 have lS:(tN ⟨awT,awC,[47::uM],[]⟩).length=3:=vK _
 have gR:=vM (g:=⟨awT,awC,[],[]⟩) (i:=2) (by show 2<3;omega)
 have gS1:=vM (g:=⟨awT,awC,[47::uM],[]⟩) (i:=1) (by show 1<3;omega)
 have gS2:=vM (g:=⟨awT,awC,[47::uM],[]⟩) (i:=2) (by show 2<3;omega)
 have hR2:(rowOf (nR ⟨awT,awC,[],[]⟩) (pV ⟨awT,awC,[],[]⟩).2 2).1=0:=by
  show (rowOf (nR ⟨awT,awC,[],[]⟩) (rG (nR ⟨awT,awC,[],[]⟩) _ 3).2 2).1=0
  rw [VW];exact Xz (by rfl) (by rfl)
 have hSS:(pV ⟨awT,awC,[47::uM],[]⟩).1.length=2∧(rowOf (nR ⟨awT,awC,[47::uM],[]⟩) (pV ⟨awT,awC,[47::uM],[]⟩).2 1).1=7∧rowOf (nR ⟨awT,awC,[47::uM],[]⟩) (pV ⟨awT,awC,[47::uM],[]⟩).2 2=(8,some 0,1):=by
  show (rG (nR ⟨awT,awC,[47::uM],[]⟩) _ 3).1.length=2∧(rowOf (nR ⟨awT,awC,[47::uM],[]⟩) (rG (nR ⟨awT,awC,[47::uM],[]⟩) _ 3).2 1).1=7∧rowOf (nR ⟨awT,awC,[47::uM],[]⟩) (rG (nR ⟨awT,awC,[47::uM],[]⟩) _ 3).2 2=(8,some 0,1)
  rw [VW];exact XA (by decide+kernel) (by decide+kernel)
 obtain ⟨hS1,hS2,hS3⟩:=hSS
 rw [hS3] at gS2
 generalize rowOf (nR ⟨awT,awC,[],[]⟩) (pV ⟨awT,awC,[],[]⟩).2 2=x1 at*
 generalize rowOf (nR ⟨awT,awC,[47::uM],[]⟩) (pV ⟨awT,awC,[47::uM],[]⟩).2 1=x2 at*
 have oR:=hR'.rows.rd (nP _)
 have oS:=hS'.rows.rd (nP _)
 clear hR' hS'
 generalize tN ⟨awT,awC,[],[]⟩=R1 at*
 generalize tN ⟨awT,awC,[47::uM],[]⟩=R2 at*
 generalize (pV ⟨awT,awC,[47::uM],[]⟩).1=E2 at*
 (repeat' (first|refine aa0 ?_|refine aa1 ?_|refine af ?_|refine aa6 ?_|refine pU ?_|refine ah ?_|refine au ?_|refine ak ?_|refine aa5 ?_|(refine bJ rfl rfl (fun _=>?_) (fun _=>?_)<;>(first|(exfalso;omega)|skip))))
 refine ay (u:=.slice p1 R1.length q1) rfl (b8'.cell (o:=0) rfl) ?_
 (repeat' (first|refine aa0 ?_|refine aa6 ?_|refine pU ?_|refine pz ?_|refine aa5 ?_|(refine bJ rfl rfl (fun _=>?_) (fun _=>?_)<;>(first|(exfalso;omega)|skip))))
 refine ay (u:=.slice t1 R2.length u1) rfl (b12.cell (o:=0) rfl) ?_
 (repeat' (first|refine aa0 ?_|refine aa6 ?_|refine pU ?_|refine pz ?_|refine aa5 ?_|(refine bJ rfl rfl (fun _=>?_) (fun _=>?_)<;>(first|(exfalso;omega)|skip))))
 refine ay (u:=.slice p1 R1.length q1) rfl (b8'.cell (o:=0) rfl) ?_
 (repeat' (refine aa6 ?_))
 refine aU oR rfl rfl (by omega) gR fun b o cs hl hR hat=>?_
 obtain rfl:cs=rwC _:=hR
 (repeat' (first|refine aa6 ?_|refine aa5 ?_))
 refine ay (u:=.int .u8 x1.1) rfl (hat.get 0 rfl) ?_
 clear hat
 (repeat' (first|refine aa0 ?_|refine aa6 ?_|refine pU ?_|refine aa5 ?_|(refine bJ rfl rfl (fun _=>?_) (fun _=>?_)<;>(first|(exfalso;omega)|skip))))
 refine ay (u:=.slice t1 R2.length u1) rfl (b12.cell (o:=0) rfl) ?_
 (repeat' (refine aa6 ?_))
 refine aU oS rfl rfl (by omega) gS1 fun b o cs hl hR hat=>?_
 obtain rfl:cs=rwC _:=hR
 (repeat' (first|refine aa6 ?_|refine aa5 ?_))
 refine ay (u:=.int .u8 x2.1) rfl (hat.get 0 rfl) ?_
 clear hat
 (repeat' (first|refine aa0 ?_|refine aa6 ?_|refine pU ?_|refine aa5 ?_|(refine bJ rfl rfl (fun _=>?_) (fun _=>?_)<;>(first|(exfalso;omega)|skip))))
 refine ay (u:=.slice t1 R2.length u1) rfl (b12.cell (o:=0) rfl) ?_
 (repeat' (refine aa6 ?_))
 refine aU oS rfl rfl (by omega) gS2 fun b o cs hl hR hat=>?_
 obtain rfl:cs=rwC _:=hR
 (repeat' (first|refine aa6 ?_|refine aa5 ?_))
 refine ay (u:=.int .u8 8) rfl (hat.get 0 rfl) ?_
 clear hat
 (repeat' (first|refine aa0 ?_|refine aa6 ?_|refine pU ?_|refine aa5 ?_|(refine bJ rfl rfl (fun _=>?_) (fun _=>?_)<;>(first|(exfalso;omega)|skip))))
 refine ay (u:=.slice t1 R2.length u1) rfl (b12.cell (o:=0) rfl) ?_
 (repeat' (refine aa6 ?_))
 refine aU oS rfl rfl (by omega) gS2 fun b o cs hl hR hat=>?_
 obtain rfl:cs=rwC _:=hR
 (repeat' (first|refine aa6 ?_|refine aa5 ?_))
 refine ay (u:=vi 1) rfl (hat.get 2 rfl) ?_
 clear hat
 (repeat' (first|refine aa0 ?_|refine aa6 ?_|refine pU ?_|refine aa5 ?_|(refine bJ rfl rfl (fun _=>?_) (fun _=>?_)<;>(first|(exfalso;omega)|skip))))
 refine ay (u:=.slice t2 E2.length u2) rfl (b12.cell (o:=1) rfl) ?_
 (repeat' (first|refine aa1 ?_|refine af ?_|refine aa6 ?_|refine pU ?_|refine pz ?_|refine ah ?_|refine aA ?_|(refine bJ rfl rfl (fun _=>?_) (fun _=>?_)<;>(first|(exfalso;omega)|skip))))
 exact aF rfl rfl ⟨_,rfl,rfl,afL⟩
end Go.Proofs.YtjecgaiaiophpaaGreatDoor
namespace Go.Proofs.YtjecgaiaiophpaaGreatDoor
open Go Wk
open Go.RowKit (Below)
attribute [local irreducible] Go.Calls
theorem xM.form {g:Giv} {lo:Nat} {r:Value} {w':World} (h:xM g lo r w'): ∃p1 l1 q1 p2 l2 q2 p3 l3 q3 p4 l4 q4,r=.tuple #[.agg #[.slice p1 l1 q1,.slice p2 l2 q2,.slice p3 l3 q3,.slice p4 l4 q4],vi (ql g)]∧
 (ql g=0→RdR (fun b=>lo≤b) w' (tN g) (pV g).1 (Q7 g).1 (Q7 g).2 (.slice p1 l1 q1) (.slice p2 l2 q2) (.slice p3 l3 q3) (.slice p4 l4 q4))∧(ql g=0→l1=g.tree.length)∧(ql g≠0→l1=0):=by
 unfold xM at h
 by_cases he:ql g=0
 ·rw [if_pos he] at h
  obtain ⟨a,b,c,d,rfl,hR⟩:=h
  obtain ⟨⟨p1,q1,rfl⟩,⟨p2,q2,rfl⟩,⟨p3,q3,rfl⟩,⟨p4,q4,rfl⟩⟩:=hR.form
  exact ⟨p1,_,q1,p2,_,q2,p3,_,q3,p4,_,q4,by rw [he],fun _=>hR,fun _=>vK g,fun e=>absurd he e⟩
 ·rw [if_neg he] at h
  exact ⟨none,0,0,none,0,0,none,0,0,none,0,0,h,fun e=>absurd e he,fun e=>absurd e he,fun _=>rfl⟩
theorem sl4 {p1 p2 p3 p4:Option Addr} {l1 q1 l2 q2 l3 q3 l4 q4:Nat}: ∀x∈([.slice p1 l1 q1,.slice p2 l2 q2,.slice p3 l3 q3,.slice p4 l4 q4]:List Value),x.oneCell'=true:=by
 intro x hx
 simp at hx
 rcases hx with rfl|rfl|rfl|rfl<;>rfl
end Go.Proofs.YtjecgaiaiophpaaGreatDoor
namespace Go.Proofs.YtjecgaiaiophpaaGreatDoor
open Go Wk
open Go.RowKit (Below)
attribute [local irreducible] Go.Calls
theorem P7 {N:Nat→Bn} {S S':St} {n i:Nat} (hn:InN N n) (hi:i<n) (h: ∀k,k<n→S k=S' k):sV N S i=sV N S' i:=by
 unfold sV
 apply List.filter_congr
 intro k hk
 rw [h k (hn i hi k hk)]
def vO (g:Giv) (i:Int) (lo:Nat) (r:Value) (w':World):Prop:=
 if ql g≠0 then r=.tuple #[.slice none 0 0,vi (ql g)]
 else if i<0∨(g.tree.length:Int)≤i then r=.tuple #[.slice none 0 0,vi 1]
 else if (rowOf (nR g) (pV g).2 i.toNat).1≠8 then r=.tuple #[.slice none 0 0,vi 0]
 else ∃v,r=.tuple #[v,vi 0]∧nO (Wk.one viN) 3 1 (fun b=>lo≤b) NoB w' v (Dn (sV (nR g) (pV g).2) g.tree.length i.toNat)
theorem XC {g:Giv} {i:Int} {lo:Nat} {w':World} (he:ql g≠0):vO g i lo (.tuple #[.slice none 0 0,vi (ql g)]) w':=by unfold vO;rw [if_pos he]
theorem Rf {g:Giv} {i:Int} {lo:Nat} {w':World} (he:ql g=0) (h:i<0∨(g.tree.length:Int)≤i):vO g i lo (.tuple #[.slice none 0 0,vi 1]) w':=by unfold vO;rw [if_neg (fun e=>e he),if_pos h]
theorem XD {g:Giv} {i:Nat} {lo:Nat} {w':World} (he:ql g=0) (h:i<g.tree.length) (h8:(rowOf (nR g) (pV g).2 i).1≠8):vO g i lo (.tuple #[.slice none 0 0,vi 0]) w':=by unfold vO;rw [if_neg (fun e=>e he),if_neg (by omega),Int.toNat_natCast,if_pos h8]
theorem Y0 {g:Giv} {i:Nat} {lo:Nat} {w':World} {v:Value} (he:ql g=0) (h:i<g.tree.length) (h8:(rowOf (nR g) (pV g).2 i).1=8) (o:nO (Wk.one viN) 3 1 (fun b=>lo≤b) NoB w' v (Dn (sV (nR g) (pV g).2) g.tree.length i)):vO g i lo (.tuple #[v,vi 0]) w':=by
 unfold vO;rw [if_neg (fun e=>e he),if_neg (by omega),Int.toNat_natCast,if_neg (fun e=>e h8)];exact ⟨v,rfl,o⟩
section
variable {Pb:Nat→Prop} {w:World} {g:Giv} {tv cv fv gv:Value}
theorem Lh {i:Int} (h:RdG Pb w g tv cv fv gv) (sh:NR g):
 Calls Tryz.prog 30 #[.agg #[tv,cv,fv,gv],vi i] w (Ret fun r w'=>vO g i w.heap.size r w'∧New w w'):=by
 obtain ⟨ta,tc,rfl,_,_⟩:=h.t.form
 obtain ⟨ca,cc,rfl,_,_⟩:=h.c.form
 obtain ⟨fa,fc,rfl,_,_⟩:=h.f.form
 obtain ⟨ga,gc,rfl,_,_⟩:=h.g.form
 refine nI Tryz.func30 rfl Tryz.ntmps30 rfl ?_
 (repeat' (first|refine au ?_|refine ak ?_))
 refine bC rfl fun w1 b1 n1 s1=>?_
 replace b1:Bk w1 w.heap.size 27 [.slice ta g.tree.length tc,.slice ca g.cards.length cc,.slice fa g.fails.length fc,.slice ga g.gone.length gc]:=b1
 (repeat' (first|refine aa1 ?_|refine af ?_|refine ah ?_|refine au ?_|refine ak ?_))
 refine bM b1 rfl rfl ?_
 refine aB (JO (h.keep n1.keep pW) sh) rfl ?_
 rintro _ w3 ⟨hr,n3⟩
 have n03:=New.trans n1 n3
 have hz1:=n1.size
 have hz3:=n3.size
 by_cases he:ql g=0
 ·rw [if_pos he] at hr
  have hok:=(wo.1 he).1
  have htl:=oP hok
  obtain ⟨a,b,c,d,bw,bm,N,fl,nv,ov,rfl,hR,g0,hNl,hNb,hst,_⟩:=hr
  obtain ⟨⟨p1,q1,rfl⟩,⟨p2,q2,rfl⟩,⟨p3,q3,rfl⟩,⟨p4,q4,rfl⟩⟩:=hR.form
  have hrl:=vK g
  rw [show rowsOf (nR g) (rG (nR g) g.fails.contains g.tree.length).2 g.tree.length=tN g from rfl] at hR ⊢
  generalize (rG (nR g) g.fails.contains g.tree.length).1.length=l2 at*
  generalize (Eg g.tree fun k=>(rG (nR g) g.fails.contains g.tree.length).2 k == 1).1.length=l3 at*
  generalize (Eg g.tree fun k=>(rG (nR g) g.fails.contains g.tree.length).2 k == 1).2.length=l4 at*
  have oR:=hR.rows.rd (nP _)
  clear hR
  obtain ⟨na,nc,hnv,_,_⟩:=g0.nd.row.form
  (repeat' (first|refine aa0 ?_|refine pG ?_))
  refine Wl.alloc fun w4 b4 n4 s4=>?_
  refine Wl.alloc fun w5 b5 n5 s5=>?_
  refine aX (new:=[.slice p1 (tN g).length q1,.slice p2 l2 q2,.slice p3 l3 q3,.slice p4 l4 q4]) (b4.chg n5 fun e=>e) rfl rfl rfl rfl (show (4:Nat)≤4 from Nat.le_refl 4) sl4 fun w6 b6 c6 s6=>?_
  refine aY (u:=pT bw) (b5.chg c6 fun e=>by omega) rfl (show (0:Nat)<1 by omega) rfl rfl fun w7 b7 c7=>?_
  have n35:=New.trans n4 n5
  have n36:New w3 w6:=(Chg.trans (M:=fun k=>w3.heap.size≤k) n35.any c6 fun k _ e=>by omega).toNew fun k hk e=>by omega
  have hz4:=n4.size
  have n37:New w3 w7:=(Chg.trans (M:=fun k=>w3.heap.size≤k) n36.any c7 fun k _ e=>by omega).toNew fun k hk e=>by omega
  replace b7:Bk w7 w4.heap.size 42 [pT bw]:=b7
  have b67:=b6.chg c7 fun e=>by omega
  replace b67:Bk w7 w3.heap.size 33 [.slice p1 (tN g).length q1,.slice p2 l2 q2,.slice p3 l3 q3,.slice p4 l4 q4]:=b67
  have g7:=g0.new n37
  have n07:=New.trans n03 n37
  have oR7:=oR.keep (nY _) n37.keep
  clear b4 b5 b6 c6 c7 n4 n5 n35 n36 oR g0 b1
  subst hnv
  (repeat' (first|refine aa0 ?_|refine aa1 ?_|refine af ?_|refine aa6 ?_|refine qi ?_|refine pU ?_|refine ah ?_|refine au ?_|refine ak ?_|refine Wc.block ?_|refine aA ?_|refine aN ?_|refine aZ ?_|refine aa3 ?_|refine aa4 ?_|refine oZ (fun _=>?_) (fun _=>?_)|(refine qf (fun _=>?_) (fun _=>?_)<;>(first|(exfalso;omega)|skip))))
  ·exact aS rfl rfl rfl ⟨_,rfl,Rf he (.inl (by omega)),n07⟩
  ·refine ay (u:=pT bw) rfl (b7.cell (o:=0) rfl) ?_
   (repeat' (first|refine aa6 ?_|refine bK rfl ?_|refine aa5 ?_))
   refine ay (u:=.slice na N.length nc) rfl (g7.b.cell (o:=0) rfl) ?_
   (repeat' (first|refine aa1 ?_|refine af ?_|refine aa6 ?_|refine pI ?_|refine pz ?_|refine ah ?_|refine au ?_|refine ak ?_|refine aA ?_|refine aN ?_|refine aZ ?_|refine aa3 ?_|refine aa4 ?_|refine aa5 ?_|refine bZ rfl rfl (fun _=>?_) (fun _=>?_)))
   ·exact aS rfl rfl rfl ⟨_,rfl,Rf he (.inr (by omega)),n07⟩
   ·obtain ⟨i,rfl⟩:=Int.eq_ofNat_of_zero_le (show 0≤i by omega)
    have hi:i<g.tree.length:=by omega
    have g1:=vM (g:=g) hi
    refine ay (u:=.slice p1 (tN g).length q1) rfl (b67.cell (o:=0) rfl) ?_
    (repeat' (refine aa0 ?_))
    refine aU oR7 rfl rfl (by omega) (by rw [Int.toNat_natCast];exact g1) fun b o cs hl hR hat=>?_
    obtain rfl:cs=rwC _:=hR
    (repeat' (refine aa5 ?_))
    refine ay (u:=.int .u8 (rowOf (nR g) (pV g).2 i).1) rfl (hat.get 0 rfl) ?_
    clear hat
    by_cases h8:(rowOf (nR g) (pV g).2 i).1=8
    ·rw [h8]
     (repeat' (first|refine aa1 ?_|refine af ?_|refine ah ?_|refine au ?_|refine ak ?_|refine Wc.skip ?_|refine aH ?_|refine aa4 ?_|(refine qf (fun _=>?_) (fun _=>?_)<;>(first|(exfalso;omega)|skip))))
     refine ay (u:=pT bw) rfl (b7.cell (o:=0) rfl) ?_
     (repeat' (first|refine bK rfl ?_|refine aa5 ?_))
     refine ay (u:=.slice na N.length nc) rfl (g7.b.cell (o:=0) rfl) ?_
     (repeat' (first|refine aa0 ?_|refine pz ?_))
     refine dH (f1:=[]) (c1:=[pT w4.heap.size]) rfl rfl ?_
     rw [hNl]
     have hz7:=n37.size
     refine aB (NT (n:=g.tree.length) (i:=i) (Wn:=sV (nR g) (pV g).2) (fun W nW j hj=>?_) (fun j hj k hk=>vJ hok j hj k (List.mem_filter.1 hk).1) htl hi) rfl ?_
     ·refine (Jb (i:=j) (g7.new nW) (b7.chg nW fun e=>e) (by omega) (by rw [hNb];exact TF hok j)).mono ?_
      rintro _ w'' ⟨r,rfl,o,n⟩
      rw [hNb,P7 (vJ hok) hj hst] at o
      exact ⟨r,rfl,(o.rd (nU _)).mono (nU _) fun b _ hb=>.inl (hb.elim id fun e=>e.elim),n⟩
     ·rintro v w8 ⟨oV,n8⟩
      have aeU:=n07.size
      (repeat' (first|refine aa1 ?_|refine af ?_|refine ah ?_|refine aA ?_))
      exact aS rfl rfl rfl ⟨_,rfl,Y0 he hi h8 (oV.mono (nU _) (fun b _ e=>by have e:w7.heap.size≤b:=e;show w.heap.size≤b;omega) (fun _ _ e=>e)),New.trans n07 n8⟩
    ·generalize hx1:(rowOf (nR g) (pV g).2 i).1=x1 at*
     (repeat' (first|refine aa1 ?_|refine af ?_|refine ah ?_|refine au ?_|refine ak ?_|refine aA ?_|refine aN ?_|refine aZ ?_|refine aa3 ?_|(refine qf (fun _=>?_) (fun _=>?_)<;>(first|(exfalso;omega)|skip))))
     exact aS rfl rfl rfl ⟨_,rfl,XD he hi (by rw [hx1];exact h8),n07⟩
 ·rw [if_neg he] at hr
  subst hr
  (repeat' (first|refine aa0 ?_|refine pG ?_))
  refine Wl.alloc fun w4 b4 n4 s4=>?_
  refine Wl.alloc fun w5 b5 n5 s5=>?_
  refine aX (new:=Gf) (b4.chg n5 fun e=>e) rfl rfl rfl rfl (show (4:Nat)≤4 from Nat.le_refl 4) Q8 fun w6 b6 c6 s6=>?_
  refine aY (u:=.pointer none) (b5.chg c6 fun e=>by omega) rfl (show (0:Nat)<1 by omega) rfl rfl fun w7 b7 c7=>?_
  have n35:=New.trans n4 n5
  have n36:New w3 w6:=(Chg.trans (M:=fun k=>w3.heap.size≤k) n35.any c6 fun k _ e=>by omega).toNew fun k hk e=>by omega
  have hz4:=n4.size
  have n37:New w3 w7:=(Chg.trans (M:=fun k=>w3.heap.size≤k) n36.any c7 fun k _ e=>by omega).toNew fun k hk e=>by omega
  have fin:=XC (i:=i) (lo:=w.heap.size) (w':=w7) he
  generalize ql g=ne at*
  (repeat' (first|refine aa0 ?_|refine aa1 ?_|refine af ?_|refine ah ?_|refine au ?_|refine ak ?_|refine Wc.block ?_|refine aA ?_|refine aN ?_|refine aZ ?_|refine aa3 ?_|(refine qf (fun _=>?_) (fun _=>?_)<;>(first|(exfalso;omega)|skip))))
  exact aS rfl rfl rfl ⟨_,rfl,fin,New.trans n03 n37⟩
end
end Go.Proofs.YtjecgaiaiophpaaGreatDoor
namespace Go.Proofs.YtjecgaiaiophpaaGreatDoor
open Go Wk
open Go.RowKit (Below)
attribute [local irreducible] Go.Calls
noncomputable def uK (g:Giv) (i:Nat) (e:Ed):Option Nat:=if e.src=i∧e.soft=false∧(nR g i).card≠none then e.dst else none
noncomputable def lwM (g:Giv) (i:Nat):List Nat:=uV g.tree i++(nZ g.tree).filterMap (uK g i)
abbrev WL (lo:Nat) (w:World) (v:Value) (rs:List tX):Prop:=LLs wrC (·.1) (·.2) viN 41 3 1 (fun b=>lo≤b) w v rs
section
variable {Pg Pr:Nat→Prop} {w:World} {g:Giv} {tv cv fv gv a b c d:Value}
theorem P8 (h:RdG Pg w g tv cv fv gv) (hok:oG g.tree=true) (hr:RdS (flat rwC) 3 Pr w a (tN g)) (hb: ∃p l q,b=.slice p l q) (hc: ∃p l q,c=.slice p l q) (hd: ∃p l q,d=.slice p l q):
 Calls Tryz.prog 25 #[.agg #[tv,cv,fv,gv],.agg #[a,b,c,d]] w (Ret fun r w'=>(∃v rs,r=.tuple #[v,.bool true]∧WL w.heap.size w' v rs∧rs.map (·.2)=(List.range g.tree.length).map (lwM g))∧New w w'):=by
 obtain ⟨ta,tc,rfl,_,_⟩:=h.t.form
 obtain ⟨ca,cc,rfl,_,_⟩:=h.c.form
 obtain ⟨fa,fc,rfl,_,_⟩:=h.f.form
 obtain ⟨ga,gc,rfl,_,_⟩:=h.g.form
 obtain ⟨p1,q1,rfl,_,_⟩:=hr.form
 obtain ⟨p2,l2,q2,rfl⟩:=hb
 obtain ⟨p3,l3,q3,rfl⟩:=hc
 obtain ⟨p4,l4,q4,rfl⟩:=hd
 have htl:=oP hok
 have hpos:=sH hok
 have hrl:=vK g
 refine nI Tryz.func25 rfl Tryz.ntmps25 rfl ?_
 (repeat' (first|refine au ?_|refine ak ?_))
 refine bC rfl fun w1 b2 n1 s1=>?_
 replace b2:Bk w1 w.heap.size 27 [.slice ta g.tree.length tc,.slice ca g.cards.length cc,.slice fa g.fails.length fc,.slice ga g.gone.length gc]:=b2
 refine bC rfl fun w2 b3 n2 s2=>?_
 replace b3:Bk w2 w1.heap.size 33 [.slice p1 (tN g).length q1,.slice p2 l2 q2,.slice p3 l3 q3,.slice p4 l4 q4]:=b3
 replace b2:=b2.chg n2 fun e=>e
 have n02:=New.trans n1 n2
 have hz1:=n1.size
 have hz2:=n2.size
 (repeat' (first|refine aa1 ?_|refine af ?_|refine ah ?_|refine au ?_|refine ak ?_|refine aa5 ?_))
 refine ay (u:=.slice ta g.tree.length tc) rfl (b2.cell (o:=0) rfl) ?_
 (repeat' (refine pz ?_))
 refine eF (f:=(·.1:tX→Value)) (y0:=(.slice none 0 0,[])) (Pe:=NoB) rfl rfl rfl (by omega) (by omega) (by omega) fun sv w3 o3 n3=>?_
 rw [Int.toNat_natCast] at o3
 have hne0:(List.replicate g.tree.length ((.slice none 0 0,[]):tX))≠ []:=by intro e;rw [List.replicate_eq_nil_iff] at e;omega
 obtain ⟨wg,wc,rfl,hwl,SK,hob⟩:=o3.blk hne0
 rw [List.length_replicate]
 have L3:WL w.heap.size w3 (.slice (some ⟨wg,0,none⟩) g.tree.length wc) (List.replicate g.tree.length (.slice none 0 0,[])):=by
  rw [List.length_replicate] at o3
  exact ⟨o3.mono (nU _) (fun b _ e=>by have e:w2.heap.size≤b:=e;show w.heap.size≤b;omega) (fun _ _ e=>e),fun b hb=>(by rw [(List.mem_replicate.1 hb).2];exact bF),fun b hb=>(by rw [(List.mem_replicate.1 hb).2];intro k e;cases e),fun i j b c _ hb _=>(by
   rw [(List.mem_replicate.1 (List.mem_of_getElem? hb)).2]
   intro k e;cases e)⟩
 have hz3:=n3.size
 (repeat' (first|refine aa1 ?_|refine af ?_|refine ah ?_|refine au ?_|refine ak ?_|refine aa5 ?_))
 refine ay (u:=.slice ta g.tree.length tc) rfl ((b2.chg n3 fun e=>e).cell (o:=0) rfl) ?_
 refine aB (Io ((h.t.keep oz n02.keep).keep oz n3.keep) hok) rfl ?_
 rintro _ w5 ⟨⟨q,rfl,hE⟩,n5⟩
 obtain ⟨ea,ec,rfl,_,_⟩:=hE.form
 have hel:=tK hok g.tree.length (Nat.le_refl _)
 rw [show (List.range g.tree.length).flatMap (xH g.tree)=nZ g.tree from rfl] at hel
 have hz5:=n5.size
 have n05:=New.trans n02 (New.trans n3 n5)
 have hE5:RdS rEd 6 (fun b=>w3.heap.size≤b∧b<w5.heap.size) w5 (.slice ea (nZ g.tree).length ec) (nZ g.tree):=hE.mono qJ fun b hb e=>⟨e,hb⟩
 have ht5:RdS rNd 3 (fun b=>b<w.heap.size) w5 (.slice ta g.tree.length tc) g.tree:=(h.t.mono (Pb':=fun b=>b<w.heap.size) yC fun b hb _=>hb).keep oz n05.keep
 have hr5:RdS (flat rwC) 3 (fun b=>b<w.heap.size) w5 (.slice p1 (tN g).length q1) (tN g):=(hr.mono (Pb':=fun b=>b<w.heap.size) (nP _) fun b hb _=>hb).keep (nY _) n05.keep
 have b25:=b2.chg (New.trans n3 n5) fun e=>e
 have b35:=b3.chg (New.trans n3 n5) fun e=>e
 have L5:=L3.new n5
 have hwg:wg<w3.heap.size:=SK
 have aiC:w2.heap.size≤wg:=hwl
 clear L3 o3 hE b2 b3 hne0 h hr
 have X0:(List.replicate g.tree.length ((.slice none 0 0,[]):tX)).map (·.2)=(List.range g.tree.length).map fun j=>if j<1 then uV g.tree j else []:=by
  rw [List.map_replicate]
  refine (List.eq_replicate_iff.2 ⟨by simp,fun b hb=>?_⟩).symm
  obtain ⟨j,_,rfl⟩:=List.mem_map.1 hb
  split
  ·unfold uV;rw [if_neg (by omega)]
  ·rfl
 (repeat' (first|refine aa0 ?_|refine aa1 ?_|refine af ?_|refine pG ?_|refine ah ?_|refine au ?_|refine ak ?_|refine Wc.block ?_))
 refine aP (σ:=Nat×List tX) (fun q=>[(2,pT w.heap.size),(3,pT w1.heap.size),(6,.slice (some ⟨wg,0,none⟩) g.tree.length wc),(7,.slice ea (nZ g.tree).length ec),(8,vi 0),(9,vi q.1)])
  (fun q W=>1≤q.1∧q.1≤g.tree.length∧q.2.map (·.2)=((List.range g.tree.length).map fun j=>if j<q.1 then uV g.tree j else [])∧WL w.heap.size W (.slice (some ⟨wg,0,none⟩) g.tree.length wc) q.2∧(∀x∈q.2, ∀k,x.1.ownBlock=some k→w5.heap.size≤k)∧Chg (fun k=>k=wg) w5 W) (fun q=>g.tree.length-q.1) (1,List.replicate g.tree.length (.slice none 0 0,[]))
  ⟨rfl,rfl,rfl,rfl,rfl,rfl,trivial⟩ ⟨Nat.le_refl _,hpos,X0,L5,fun x hx k e=>(by rw [(List.mem_replicate.1 hx).2] at e;cases e),aQ _ _⟩ ?_
 rintro ⟨i,bs⟩ G W ⟨hi1,afM,hbs,L,hlo,cW⟩
 dsimp only at hi1 afM hbs L hlo cW
 simp only [oU]
 have hzW:=cW.size
 have b2W:=b25.chg cW fun e=>by omega
 have b3W:=b35.chg cW fun e=>by omega
 have htW:=ht5.keep oz (cW.keep fun b _ (hb:b<w.heap.size) e=>by omega)
 have hrW:=hr5.keep (nY _) (cW.keep fun b _ (hb:b<w.heap.size) e=>by omega)
 have heW:=hE5.keep rP (cW.keep fun b _ hb e=>by have:=hb.1;omega)
 have hLl:bs.length=g.tree.length:=by
  have:=congrArg List.length hbs
  simpa using this
 (repeat' (first|refine aa0 ?_|refine au ?_|refine ak ?_|refine aa5 ?_))
 refine ay (u:=.slice ta g.tree.length tc) rfl (b2W.cell (o:=0) rfl) ?_
 (repeat' (first|refine aa1 ?_|refine af ?_|refine pz ?_|refine ah ?_|refine au ?_|refine ak ?_|refine Wc.block ?_|refine Wc.skip ?_|refine aJ ?_|refine aK ?_|refine aI ?_|refine aO ?_|refine aa3 ?_|refine aa4 ?_|refine oZ (fun _=>?_) (fun _=>?_)))
 ·have hil:i<g.tree.length:=by omega
  have hpi:=uf hok (i:=i) (by omega) hil
  obtain ⟨x,hx⟩:=nV bs (k:=i) (by omega)
  have hxm:=List.mem_of_getElem? hx
  have hxo:=L.el x hxm
  have EW:x.2=[]:=by
   have:=congrArg (fun l=>l[i]?) hbs
   rw [List.getElem?_map,List.getElem?_map,hx,List.getElem?_range hil] at this
   simp at this
   exact this
  obtain ⟨xv,xl⟩:=x
  dsimp only at hxo EW
  obtain ⟨xa,xc,rfl,hxc,KR⟩:=hxo.form
  have afN:xl.length=0:=by rw [EW];rfl
  refine bQ rfl (by kernel_rfl) (fun w'=>Chg (fun j=>(Value.slice xa xl.length xc).ownBlock=some j) W w') (Chg.drew _ _) ?_
  intro w7 n7
  have hb2': ∀w',Chg (fun j=>(Value.slice xa xl.length xc).ownBlock=some j) W w'→Bk w' w.heap.size 27 [.slice ta g.tree.length tc,.slice ca g.cards.length cc,.slice fa g.fails.length fc,.slice ga g.gone.length gc]:=fun w' c=>b2W.chg c fun e=>by have:=hlo _ hxm _ e;omega
  (repeat' (refine aa2 (aa9 (ax ?_))))
  refine aa2 (sG (ax ?_))
  have hrow: ∀w',Chg (fun j=>(Value.slice xa xl.length xc).ownBlock=some j) W w'→w'.cell? ⟨wg,0+(i:Int).toNat*1,none⟩=some (.slice xa xl.length xc):=fun w' c=>by
   have h9:=(L.row.chg (nH _) c fun j hj e=>L.wR _ hxm j e hj).at rfl rfl hx
   have:=h9.get 0 rfl
   simpa using this
  refine aa2 (aC (u:=.slice xa xl.length xc) rfl hrow (ax ?_))
  (repeat' (refine aa2 (aa8 (ax ?_))))
  refine aa2 (aC (u:=.slice ta g.tree.length tc) rfl (fun w' hw=>(hb2' w' hw).cell (o:=0) rfl) (ax ?_))
  (repeat' (refine aa2 (aa9 (ax ?_))))
  refine aa2 (cO htW (fun w' hw=>hw.keep fun b _ hb e=>by have:=hlo _ hxm _ e;have hb:b<w.heap.size:=hb;omega) rfl rfl (by omega) (by rw [Int.toNat_natCast];exact FU hil) fun b o cs hl hR hat=>ax ?_)
  obtain ⟨pv1,rfl,_⟩:=hR
  (repeat' (refine aa2 (aa8 (ax ?_))))
  refine aa2 (aC (u:=vi (par g.tree i)) rfl (fun w' hw=>by rw [←hpi.2];exact (hat w' hw).get 0 rfl) (ax ?_))
  clear hat
  refine aT rfl (bT (R:=Wk.one viN) (Pe:=NoB) (y:=par g.tree i) qH rfl rfl rfl rfl (by omega) (by omega) fun v8 w8 o8 n8 s8 e8=>?_)
  have n78:=n7.trans n8
  refine af ⟨rfl,n78.any,?_⟩
  refine aT rfl (bU qH (hxo.new (nM _) n78) (o8.rd qH.mo) (fun y cs hy=>hy) rfl rfl (by omega) (by simp only [maxLen,List.length_singleton];omega) (by simp only [List.length_singleton];omega) fun v9 w9 o9 c9 lie _=>?_)
  have c69:Chg (fun j=>(Value.slice xa xl.length xc).ownBlock=some j) W w9:=Chg.trans n78.any c9 fun _ _ e=>e
  refine af ⟨rfl,c69,?_⟩
  skip
  refine aa2 (sG (ax ?_))
  have YH:=n78.size
  refine Wt.last rfl (dQ (f:=(·.1:tX→Value)) (q:=(v9,xl++ [par g.tree i])) (j:=i) (cap:=wc) (L.row.chg (nH _) c69 fun j hj e=>L.wR _ hxm j e hj) (by rw [hLl]) (by omega) (by show Value.pointer (some ⟨wg,0+(i:Int).toNat*1,none⟩)=_;simp) rfl rfl (by obtain ⟨_,_,rfl,_⟩:=o9.form;rfl) fun w10 o10 c10=>?_)
  refine af ?_
  have F7:v9.ownBlock=(Value.slice xa xl.length xc).ownBlock∨ ∀k,v9.ownBlock=some k→W.heap.size≤k:=lie.imp id fun h9 k hk=>by have:=h9 k hk;omega
  have L10:=L.set hx (b':=(v9,xl++ [par g.tree i])) (w1:=w9) (o9.mono (nU _) (fun b _ e=>by rcases e with e|e;exact e;omega) (fun _ _ e=>e)) c69 F7 o10 c10
  have VZ: ∀x∈bs.set i (v9,xl++ [par g.tree i]), ∀k,x.1.ownBlock=some k→w5.heap.size≤k:=fun x hxx k hk=>by
   rcases List.mem_or_eq_of_mem_set hxx with e|e
   ·exact hlo x e k hk
   ·subst e
    rcases F7 with e|e
    ·exact hlo _ hxm k (e▸hk)
    ·have:=e k hk;omega
  have Y1:Chg (fun k=>k=wg) w5 w10:=Chg.trans (M':=fun k=>w5.heap.size≤k∨k=wg) cW (Chg.trans (c69.mono fun k _ e=>.inl (hlo _ hxm k e)) c10 fun k _ e=>by cases e;exact .inr rfl) fun k hk e=>by rcases e with e|e;omega;exact e
  (repeat' (first|refine aa0 ?_|refine aa1 ?_|refine af ?_|refine ah ?_|refine ak ?_|refine aH ?_|refine aa7 ?_))
  refine aG (i+1,bs.set i (v9,xl++ [par g.tree i])) ⟨rfl,rfl,rfl,rfl,rfl,rfl,trivial⟩ ⟨by dsimp only;omega,by dsimp only;omega,?_,L10,VZ,Y1⟩ (by dsimp only;omega)
  dsimp only
  rw [List.map_set,hbs,vI hil]
  apply List.map_congr_left
  intro j _
  rw [EW,List.nil_append]
  by_cases e1:j=i
  ·rw [if_pos e1,if_pos (by omega)]
   unfold uV
   rw [if_pos (by omega),e1]
  ·rw [if_neg e1]
   by_cases e2:j<i
   ·rw [if_pos e2,if_pos (by omega)]
   ·rw [if_neg e2,if_neg (by omega)]
 ·obtain rfl:i=g.tree.length:=by omega
  have Vq:bs.map (·.2)=(List.range g.tree.length).map fun j=>uV g.tree j++((nZ g.tree).take 0).filterMap (uK g j):=by
   rw [hbs]
   apply List.map_congr_left
   intro j hj
   rw [if_pos (by simpa using hj)];simp
  have L0:=L
  have hlo0:=hlo
  have cW0:=cW
  clear hbs L hlo cW hzW b2W b3W htW hrW heW hLl X0 L5
  refine aP (σ:=Nat×List tX) (fun q=>[(2,pT w.heap.size),(3,pT w1.heap.size),(6,.slice (some ⟨wg,0,none⟩) g.tree.length wc),(7,.slice ea (nZ g.tree).length ec),(8,vi 0),(10,vi q.1)])
   (fun q W=>q.1≤(nZ g.tree).length∧q.2.map (·.2)=((List.range g.tree.length).map fun j=>uV g.tree j++((nZ g.tree).take q.1).filterMap (uK g j))∧WL w.heap.size W (.slice (some ⟨wg,0,none⟩) g.tree.length wc) q.2∧(∀x∈q.2, ∀k,x.1.ownBlock=some k→w5.heap.size≤k)∧Chg (fun k=>k=wg) w5 W) (fun q=>(nZ g.tree).length-q.1) (0,bs)
   ⟨rfl,rfl,rfl,rfl,rfl,rfl,trivial⟩ ⟨Nat.zero_le _,Vq,L0,hlo0,cW0⟩ ?_
  clear Vq L0 hlo0 cW0 W bs
  rintro ⟨k,bs⟩ G2 W ⟨hk,hbs,L,hlo,cW⟩
  dsimp only at hk hbs L hlo cW
  simp only [oU]
  have hzW:=cW.size
  have b2W:=b25.chg cW fun e=>by omega
  have b3W:=b35.chg cW fun e=>by omega
  have hrW:=hr5.keep (nY _) (cW.keep fun b _ (hb:b<w.heap.size) e=>by omega)
  have heW:=hE5.keep rP (cW.keep fun b _ hb e=>by have:=hb.1;omega)
  have hLl:bs.length=g.tree.length:=by
   have:=congrArg List.length hbs
   simpa using this
  (repeat' (first|refine aa0 ?_|refine aa1 ?_|refine af ?_|refine pz ?_|refine ah ?_|refine au ?_|refine ak ?_|refine Wc.block ?_|refine Wc.skip ?_|refine aJ ?_|refine aA ?_|refine aK ?_|refine aI ?_|refine aO ?_|refine aa3 ?_|refine aa4 ?_|refine oZ (fun _=>?_) (fun _=>?_)|(refine bJ rfl rfl (fun _=>?_) (fun _=>?_)<;>(first|(exfalso;omega)|skip))))
  ·obtain ⟨e,he⟩:=nV (nZ g.tree) (k:=k) (by omega)
   have hlt:=vH e (List.mem_of_getElem? he)
   have hst: ∀j,((nZ g.tree).take (k+1)).filterMap (uK g j)=((nZ g.tree).take k).filterMap (uK g j)++(uK g j e).toList:=fun j=>by
    rw [take_snoc he,List.filterMap_append]
    congr 1
   have hno:(∀j,uK g j e=none)→bs.map (·.2)=(List.range g.tree.length).map fun j=>uV g.tree j++((nZ g.tree).take (k+1)).filterMap (uK g j):=fun h=>by
    rw [hbs]
    apply List.map_congr_left
    intro j _
    rw [hst j,h j];simp
   have fin:=fun (h: ∀j,uK g j e=none)=>(⟨by omega,hno h,L,hlo,cW⟩:k+1≤(nZ g.tree).length∧bs.map (·.2)=((List.range g.tree.length).map fun j=>uV g.tree j++((nZ g.tree).take (k+1)).filterMap (uK g j))∧WL w.heap.size W (.slice (some ⟨wg,0,none⟩) g.tree.length wc) bs∧(∀x∈bs, ∀k,x.1.ownBlock=some k→w5.heap.size≤k)∧Chg (fun k=>k=wg) w5 W)
   refine aU heW rfl rfl (by omega) (by rw [Int.toNat_natCast];exact he) fun b o cs hl hR hat=>?_
   obtain ⟨pv1,rfl,_⟩:=hR
   (repeat' (refine aa5 ?_))
   refine ay (u:=vi e.src) rfl (hat.get 0 rfl) ?_
   clear hat
   (repeat' (first|refine aa0 ?_|refine aa1 ?_|refine af ?_|refine ah ?_|refine au ?_|refine ak ?_))
   refine aU heW rfl rfl (by omega) (by rw [Int.toNat_natCast];exact he) fun b o cs hl hR hat=>?_
   obtain ⟨pv2,rfl,_⟩:=hR
   (repeat' (refine aa5 ?_))
   refine ay (u:=.bool e.soft) rfl (hat.get 3 rfl) ?_
   clear hat
   cases hso:e.soft with
   |true=>
    (repeat' (first|refine aa0 ?_|refine aa1 ?_|refine af ?_|refine qi ?_|refine pI ?_|refine aV rfl ?_|refine ah ?_|refine ak ?_|refine Wc.skip ?_|refine aH ?_|refine aa4 ?_|refine aa7 ?_))
    exact aG (k+1,bs) ⟨rfl,rfl,rfl,rfl,rfl,rfl,trivial⟩ (fin fun j=>by unfold uK;rw [if_neg (fun h=>by rw [hso] at h;cases h.2.1)]) (by dsimp only;omega)
   |false=>
    (repeat' (first|refine aa0 ?_|refine aa6 ?_|refine aV rfl ?_))
    refine aU heW rfl rfl (by omega) (by rw [Int.toNat_natCast];exact he) fun b o cs hl hR hat=>?_
    obtain ⟨pv2,rfl,_⟩:=hR
    (repeat' (first|refine aa6 ?_|refine aa5 ?_))
    refine ay (u:=vi (qy e.dst)) rfl (hat.get 1 rfl) ?_
    clear hat
    cases hds:e.dst with
    |none=>
     rw [show qy none= -1 from rfl]
     (repeat' (first|refine aa0 ?_|refine aa1 ?_|refine af ?_|refine aa6 ?_|refine qi ?_|refine pU ?_|refine pI ?_|refine ah ?_|refine ak ?_|refine Wc.skip ?_|refine aH ?_|refine aa4 ?_|refine aa7 ?_|(refine bZ rfl rfl (fun _=>?_) (fun _=>?_)<;>(first|(exfalso;omega)|skip))))
     exact aG (k+1,bs) ⟨rfl,rfl,rfl,rfl,rfl,rfl,trivial⟩ (fin fun j=>by unfold uK;rw [hds];split<;>rfl) (by dsimp only;omega)
    |some d=>
     rw [show qy (some d)=(d:Int) from rfl]
     (repeat' (first|refine aa0 ?_|refine aa6 ?_|refine pU ?_|refine aa5 ?_|(refine bZ rfl rfl (fun _=>?_) (fun _=>?_)<;>(first|(exfalso;omega)|skip))))
     refine ay (u:=.slice p1 (tN g).length q1) rfl (b3W.cell (o:=0) rfl) ?_
     (repeat' (first|refine aa0 ?_|refine aa6 ?_))
     have g1:=vM (g:=g) hlt.1
     have hrc:(rowOf (nR g) (pV g).2 e.src).2.1=(nR g e.src).card:=(VR (nR g) (fun i=>(nR g i).card) (pV g).2 e.src).2.2.2
     refine aU hrW rfl rfl (by omega) (by rw [Int.toNat_natCast];exact g1) fun b o cs hl hR hat=>?_
     obtain rfl:cs=rwC _:=hR
     (repeat' (first|refine aa6 ?_|refine aa5 ?_))
     refine ay (u:=vi (qy (nR g e.src).card)) rfl (by rw [←hrc];exact hat.get 1 rfl) ?_
     clear hat
     cases hcd:(nR g e.src).card with
     |none=>
      rw [show qy none= -1 from rfl]
      (repeat' (first|refine aa0 ?_|refine aa1 ?_|refine af ?_|refine aa6 ?_|refine pU ?_|refine ah ?_|refine ak ?_|refine Wc.skip ?_|refine aH ?_|refine aa4 ?_|refine aa7 ?_|(refine bZ rfl rfl (fun _=>?_) (fun _=>?_)<;>(first|(exfalso;omega)|skip))))
      exact aG (k+1,bs) ⟨rfl,rfl,rfl,rfl,rfl,rfl,trivial⟩ (fin fun j=>by unfold uK;rw [if_neg (fun h=>by rw [←h.1] at h;exact h.2.2 hcd)]) (by dsimp only;omega)
     |some cd=>
      rw [show qy (some cd)=(cd:Int) from rfl]
      obtain ⟨x,hx⟩:=nV bs (k:=e.src) (by omega)
      have hxm:=List.mem_of_getElem? hx
      have hxo:=L.el x hxm
      have EW:x.2=uV g.tree e.src++((nZ g.tree).take k).filterMap (uK g e.src):=by
       have:=congrArg (fun l=>l[e.src]?) hbs
       rw [List.getElem?_map,List.getElem?_map,hx,List.getElem?_range hlt.1] at this
       simp at this
       exact this
      obtain ⟨xv,xl⟩:=x
      dsimp only at hxo EW
      obtain ⟨xa,xc,rfl,hxc,KR⟩:=hxo.form
      have afN:xl.length≤1+(nZ g.tree).length:=by
       have h1:=List.length_filterMap_le (uK g e.src) ((nZ g.tree).take k)
       have h2:(uV g.tree e.src).length≤1:=by unfold uV;split<;>simp
       rw [EW,List.length_append]
       rw [List.length_take] at h1
       omega
      (repeat' (first|refine af ?_|refine aa6 ?_|refine pU ?_|refine ah ?_|refine aa3 ?_|(refine bZ rfl rfl (fun _=>?_) (fun _=>?_)<;>(first|(exfalso;omega)|skip))))
      refine bQ rfl (by kernel_rfl) (fun w'=>Chg (fun j=>(Value.slice xa xl.length xc).ownBlock=some j) W w') (Chg.drew _ _) ?_
      intro w7 n7
      have hb2': ∀w',Chg (fun j=>(Value.slice xa xl.length xc).ownBlock=some j) W w'→Bk w' w.heap.size 27 [.slice ta g.tree.length tc,.slice ca g.cards.length cc,.slice fa g.fails.length fc,.slice ga g.gone.length gc]:=fun w' c=>b2W.chg c fun e=>by have:=hlo _ hxm _ e;omega
      (repeat' (refine aa2 (aa9 (ax ?_))))
      refine aa2 (sG (ax ?_))
      have hrow: ∀w',Chg (fun j=>(Value.slice xa xl.length xc).ownBlock=some j) W w'→w'.cell? ⟨wg,0+(e.src:Int).toNat*1,none⟩=some (.slice xa xl.length xc):=fun w' c=>by
       have h9:=(L.row.chg (nH _) c fun j hj e=>L.wR _ hxm j e hj).at rfl rfl hx
       have:=h9.get 0 rfl
       simpa using this
      refine aa2 (aC (u:=.slice xa xl.length xc) rfl hrow (ax ?_))
      (repeat' (refine aa2 (aa9 (ax ?_))))
      refine aa2 (cO heW (fun w' hw=>hw.keep fun b _ hb e=>by have:=hlo _ hxm _ e;have hb:=hb.2;omega) rfl rfl (by omega) (by rw [Int.toNat_natCast];exact he) fun b o cs hl hR hat=>ax ?_)
      obtain ⟨pv1,rfl,_⟩:=hR
      (repeat' (refine aa2 (aa8 (ax ?_))))
      refine aa2 (aC (u:=vi d) rfl (fun w' hw=>by have:=(hat w' hw).get (u:=vi (qy e.dst)) 1 rfl;rw [hds] at this;exact this) (ax ?_))
      clear hat
      refine aT rfl (bT (R:=Wk.one viN) (Pe:=NoB) (y:=d) qH rfl rfl rfl rfl (by omega) (by omega) fun v8 w8 o8 n8 s8 e8=>?_)
      have n78:=n7.trans n8
      refine af ⟨rfl,n78.any,?_⟩
      refine aT rfl (bU qH (hxo.new (nM _) n78) (o8.rd qH.mo) (fun y cs hy=>hy) rfl rfl (by omega) (by simp only [maxLen,List.length_singleton];omega) (by simp only [List.length_singleton];omega) fun v9 w9 o9 c9 lie _=>?_)
      have c69:Chg (fun j=>(Value.slice xa xl.length xc).ownBlock=some j) W w9:=Chg.trans n78.any c9 fun _ _ e=>e
      refine af ⟨rfl,c69,?_⟩
      skip
      refine aa2 (sG (ax ?_))
      have YH:=n78.size
      refine Wt.last rfl (dQ (f:=(·.1:tX→Value)) (q:=(v9,xl++ [d])) (j:=e.src) (cap:=wc) (L.row.chg (nH _) c69 fun j hj e=>L.wR _ hxm j e hj) (by rw [hLl]) (by omega) (by show Value.pointer (some ⟨wg,0+(e.src:Int).toNat*1,none⟩)=_;simp) rfl rfl (by obtain ⟨_,_,rfl,_⟩:=o9.form;rfl) fun w10 o10 c10=>?_)
      refine af ?_
      have F7:v9.ownBlock=(Value.slice xa xl.length xc).ownBlock∨ ∀k,v9.ownBlock=some k→W.heap.size≤k:=lie.imp id fun h9 k hk=>by have:=h9 k hk;omega
      have L10:=L.set hx (b':=(v9,xl++ [d])) (w1:=w9) (o9.mono (nU _) (fun b _ e=>by rcases e with e|e;exact e;omega) (fun _ _ e=>e)) c69 F7 o10 c10
      have VZ: ∀x∈bs.set e.src (v9,xl++ [d]), ∀k,x.1.ownBlock=some k→w5.heap.size≤k:=fun x hxx k hk=>by
       rcases List.mem_or_eq_of_mem_set hxx with e|e
       ·exact hlo x e k hk
       ·subst e
        rcases F7 with e|e
        ·exact hlo _ hxm k (e▸hk)
        ·have:=e k hk;omega
      have Y1:Chg (fun k=>k=wg) w5 w10:=Chg.trans (M':=fun k=>w5.heap.size≤k∨k=wg) cW (Chg.trans (c69.mono fun k _ e=>.inl (hlo _ hxm k e)) c10 fun k _ e=>by cases e;exact .inr rfl) fun k hk e=>by rcases e with e|e;omega;exact e
      (repeat' (first|refine aa0 ?_|refine aa1 ?_|refine af ?_|refine ah ?_|refine ak ?_|refine aH ?_|refine aa7 ?_))
      refine aG (k+1,bs.set e.src (v9,xl++ [d])) ⟨rfl,rfl,rfl,rfl,rfl,rfl,trivial⟩ ⟨by dsimp only;omega,?_,L10,VZ,Y1⟩ (by dsimp only;omega)
      dsimp only
      rw [List.map_set,hbs,vI hlt.1]
      apply List.map_congr_left
      intro j _
      rw [hst j]
      by_cases e1:j=e.src
      ·rw [if_pos e1,EW,e1]
       unfold uK
       rw [if_pos ⟨rfl,hso,fun h=>by rw [hcd] at h;cases h⟩,hds]
       simp
      ·rw [if_neg e1]
       unfold uK
       rw [if_neg (fun h=>e1 h.1.symm)];simp
  ·obtain rfl:k=(nZ g.tree).length:=by omega
   rw [List.take_length] at hbs
   exact aS rfl rfl rfl ⟨_,rfl,⟨_,bs,rfl,L,hbs⟩,(Chg.trans (M:=fun k=>k=wg) n05.any cW fun k _ e=>e).toNew fun k hk e=>by omega⟩
end
end Go.Proofs.YtjecgaiaiophpaaGreatDoor
namespace Go.Proofs.YtjecgaiaiophpaaGreatDoor
open Go Wk
open Go.RowKit (Below)
attribute [local irreducible] Go.Calls
open Classical in
theorem Ep {W:Nat→List Nat} {n i k:Nat}:k∈Dn W n i↔k<n∧Rch W i k:=by
 unfold Dn
 rw [List.mem_filter,List.mem_range,decide_eq_true_eq]
theorem TJ {g:Giv} (hok:oG g.tree=true) {i:Nat} (hi:i<g.tree.length) (h8:(rowOf (nR g) (pV g).2 i).1=8):
 (∃k:Nat,(rowOf (nR g) (pV g).2 i).2.2=k∧k∈Dn (sV (nR g) (pV g).2) g.tree.length i)∧(∀k∈Dn (sV (nR g) (pV g).2) g.tree.length i,(rowOf (nR g) (pV g).2 k).1≠0)∧
 ∃k∈Dn (sV (nR g) (pV g).2) g.tree.length i,(rowOf (nR g) (pV g).2 k).1≠8:=by
 have hin:=vJ hok
 have hlt: ∀ {a b:Nat},Rch (sV (nR g) (pV g).2) a b→a<g.tree.length→b<g.tree.length:=by
  intro a b h ha
  induction h with
  |one h=>exact hin _ ha _ (uI.1 h).1
  |more h h2 ih=>exact hin _ ih _ (uI.1 h2).1
 obtain ⟨v,f⟩:=EZ (nR g) g.fails.contains g.tree.length
 obtain ⟨hr,h1,h2⟩:=yx (Bf g i) h8
 refine ⟨?_,?_,?_⟩
 ·have hle:=v.le i
  have h0:(pV g).2 i=0:=by
   have h1:(pV g).2 i≠1:=h1
   have h2:(pV g).2 i≠2:=h2
   have hle:(pV g).2 i≤2:=hle
   omega
  obtain ⟨q,hq,hq1⟩:=f i hi hr h0
  cases hw:rV (nR g) (pV g).2 i with
  |none=>exact absurd (Ba.1 hw q hq) hq1
  |some k=>
   obtain ⟨hk,hk1⟩:=Iq hw
   refine ⟨k,?_,Ep.2 ⟨hin i hi k hk,.one (uI.2 ⟨hk,hk1⟩)⟩⟩
   unfold rowOf
   rw [if_neg (by rw [not_or];exact ⟨fun e=>e hr,h1⟩),if_neg h2,hw]
 ·intro k hk e
  obtain ⟨_,hk⟩:=Ep.1 hk
  obtain ⟨c,hc⟩:=hk.last
  exact (uI.1 hc).2 (vZ.1 e).2
 ·obtain ⟨k,hk,h⟩:=Ja hok (fl:=g.fails.contains) hi h8
  exact ⟨k,Ep.2 ⟨hlt hk hi,hk⟩,h⟩
section
variable {Pb Pr:Nat→Prop} {w:World} {g:Giv} {tv cv fv gv a b c d:Value}
theorem Jc {i:Nat} {why:Int} (h:RdG Pb w g tv cv fv gv) (sh:NR g) (he:ql g=0) (hi:i<g.tree.length) (h8:(rowOf (nR g) (pV g).2 i).1=8) (hwy:(rowOf (nR g) (pV g).2 i).2.2=why)
 (hr:RdS (flat rwC) 3 Pr w a (tN g)) (hb: ∃p l q,b=.slice p l q) (hc: ∃p l q,c=.slice p l q) (hd: ∃p l q,d=.slice p l q):
 Calls Tryz.prog 26 #[.agg #[tv,cv,fv,gv],.agg #[a,b,c,d],vi i,vi why] w (Ret fun r w'=>r=.bool true∧New w w'):=by
 obtain ⟨ta,tc,rfl,_,_⟩:=h.t.form
 obtain ⟨ca,cc,rfl,_,_⟩:=h.c.form
 obtain ⟨fa,fc,rfl,_,_⟩:=h.f.form
 obtain ⟨ga,gc,rfl,_,_⟩:=h.g.form
 obtain ⟨p1,q1,rfl,_,_⟩:=hr.form
 obtain ⟨p2,l2,q2,rfl⟩:=hb
 obtain ⟨p3,l3,q3,rfl⟩:=hc
 obtain ⟨p4,l4,q4,rfl⟩:=hd
 have hok:=(wo.1 he).1
 have htl:=oP hok
 have hrl:=vK g
 obtain ⟨⟨kw,hkw,hkm⟩,hn0,km,afO,afP⟩:=TJ hok hi h8
 rw [hwy] at hkw
 subst hkw
 have hlm:=NS (sV (nR g) (pV g).2) g.tree.length i
 have hml: ∀m∈Dn (sV (nR g) (pV g).2) g.tree.length i,m<g.tree.length:=fun m hm=>(Ep.1 hm).1
 refine nI Tryz.func26 rfl Tryz.ntmps26 rfl ?_
 (repeat' (first|refine au ?_|refine ak ?_))
 refine bC rfl fun w1 b2 n1 s1=>?_
 replace b2:Bk w1 w.heap.size 27 [.slice ta g.tree.length tc,.slice ca g.cards.length cc,.slice fa g.fails.length fc,.slice ga g.gone.length gc]:=b2
 refine bC rfl fun w2 b3 n2 s2=>?_
 replace b3:Bk w2 w1.heap.size 33 [.slice p1 (tN g).length q1,.slice p2 l2 q2,.slice p3 l3 q3,.slice p4 l4 q4]:=b3
 replace b2:=b2.chg n2 fun e=>e
 have n02:=New.trans n1 n2
 (repeat' (first|refine aa1 ?_|refine af ?_|refine ah ?_|refine au ?_|refine ak ?_))
 refine bM b2 rfl rfl ?_
 (repeat' (refine aa0 ?_))
 refine aB (Lh (i:=i) (h.keep n02.keep pW) sh) rfl ?_
 rintro _ w3 ⟨hbp,n3⟩
 unfold vO at hbp
 rw [if_neg (fun e=>e he),if_neg (by omega),Int.toNat_natCast,if_neg (fun e=>e h8)] at hbp
 obtain ⟨v,rfl,oV⟩:=hbp
 generalize hL:Dn (sV (nR g) (pV g).2) g.tree.length i=L at*
 obtain ⟨va,vc,rfl,_,_⟩:=oV.form
 have oVr:=oV.rd (nU _)
 have b33:=b3.chg n3 fun e=>e
 have n03:=New.trans n02 n3
 have hr3:=hr.keep (nY _) n03.keep
 clear oV b2 b3 n1 n2 n02 n3
 (repeat' (first|refine aa0 ?_|refine aa1 ?_|refine af ?_|refine pG ?_|refine ah ?_|refine au ?_|refine ak ?_|refine Wc.block ?_))
 refine aP (σ:=Nat) (fun q=>[(3,vi kw),(5,pT w1.heap.size),(9,.slice va L.length vc),(10,vi 0),(11,.bool ((L.take q).any fun m=>m == kw)),(12,.bool ((L.take q).any fun m=>(rowOf (nR g) (pV g).2 m).1 != 8)),(13,vi q)]) (fun q W=>q≤L.length∧New w3 W) (fun q=>L.length-q) 0
  ⟨rfl,rfl,rfl,rfl,rfl,rfl,rfl,trivial⟩ ⟨Nat.zero_le _,aQ _ _⟩ ?_
 rintro k G W ⟨hk,nW⟩
 simp only [oU]
 have oVW:=oVr.keep (nS _) nW.keep
 skip
 refine au ?_
 skip
 refine au ?_
 (repeat' (first|refine aa0 ?_|refine af ?_|refine pz ?_|refine ah ?_|refine ak ?_|refine Wc.skip ?_|refine aJ ?_|refine aK ?_|refine aI ?_|refine aO ?_|refine aa3 ?_|refine aa4 ?_|refine oZ (fun _=>?_) (fun _=>?_)))
 ·obtain ⟨m,hm⟩:=nV L (k:=k) (by omega)
  have hmm:=List.mem_of_getElem? hm
  have hmn:=hml m hmm
  have hm0:=hn0 m hmm
  have g1:=vM (g:=g) hmn
  have b3W:=b33.chg nW fun e=>e
  have hrW:=hr3.keep (nY _) nW.keep
  have hs1:(L.take (k+1)).any (fun m=>m == kw)=((L.take k).any (fun m=>m == kw)||(m == kw)):=by rw [take_snoc hm,List.any_append];simp
  have hs2:(L.take (k+1)).any (fun m=>(rowOf (nR g) (pV g).2 m).1 != 8)=((L.take k).any (fun m=>(rowOf (nR g) (pV g).2 m).1 != 8)||((rowOf (nR g) (pV g).2 m).1 != 8)):=by rw [take_snoc hm,List.any_append];simp
  refine au ?_
  skip
  refine Wc.block ?_
  skip
  refine dV (fun F W'=>agrees F [(3,vi kw),(5,pT w1.heap.size),(9,.slice va L.length vc),(10,vi 0),(11,.bool ((L.take (k+1)).any fun m=>m == kw)),(12,.bool ((L.take k).any fun m=>(rowOf (nR g) (pV g).2 m).1 != 8)),(13,vi k)]∧W'=W) ?_ ?_
  ·rw [hs1]
   generalize (L.take k).any (fun m=>m == kw)=A1
   generalize (L.take k).any (fun m=>(rowOf (nR g) (pV g).2 m).1 != 8)=A2
   cases A1 with
   |true=>
    (repeat' (first|refine aa0 ?_|refine aa1 ?_|refine af ?_|refine qi ?_|refine pU ?_|refine ak ?_))
    exact cu ⟨⟨rfl,rfl,rfl,rfl,rfl,rfl,rfl,trivial⟩,rfl⟩
   |false=>
    (repeat' (first|refine aa0 ?_|refine aa6 ?_|refine ak ?_))
    refine bI oVW rfl rfl (by omega) (by rw [Int.toNat_natCast];exact hm) fun b o hcell=>?_
    (repeat' (refine aa6 ?_))
    refine ay (u:=vi m) rfl hcell ?_
    by_cases e:m=kw
    ·subst e
     rw [show (false||(m == m))=true by simp]
     (repeat' (first|refine aa0 ?_|refine aa1 ?_|refine af ?_|refine aa6 ?_|refine pI ?_|(refine bJ rfl rfl (fun _=>?_) (fun _=>?_)<;>(first|(exfalso;omega)|skip))))
     exact cu ⟨⟨rfl,rfl,rfl,rfl,rfl,rfl,rfl,trivial⟩,rfl⟩
    ·have e2:(m:Int)≠kw:=by omega
     rw [show (false||(m == kw))=false by simpa using e]
     (repeat' (first|refine aa0 ?_|refine aa1 ?_|refine af ?_|refine aa6 ?_|refine pI ?_|(refine bJ rfl rfl (fun _=>?_) (fun _=>?_)<;>(first|(exfalso;omega)|skip))))
     exact cu ⟨⟨rfl,rfl,rfl,rfl,rfl,rfl,rfl,trivial⟩,rfl⟩
  ·rintro F3 W3 ⟨hF,rfl⟩
   rw [←oN hF]
   simp only [oU]
   clear hF
   have hout: ∀w',New W3 w'→k+1≤L.length∧New w3 w':=fun w' n=>⟨by omega,New.trans nW n⟩
   (repeat' (refine au ?_))
   refine eG rfl (by kernel_rfl) ?_
   (repeat' (refine aa8 ?_))
   refine aC (u:=.slice p1 (tN g).length q1) rfl (fun w' hw=>(b3W.chg hw fun e=>e).cell (o:=0) rfl) ?_
   (repeat' (refine aa9 ?_))
   refine dm oVW (fun w' hw=>hw.keep) rfl rfl (by omega) (by rw [Int.toNat_natCast];exact hm) fun b o hcell=>?_
   skip
   refine aC (u:=vi m) rfl hcell ?_
   skip
   refine cO hrW (fun w' hw=>hw.keep) rfl rfl (by omega) (by rw [Int.toNat_natCast];exact g1) fun b o cs hl hR hat=>?_
   obtain rfl:cs=rwC _:=hR
   (repeat' (refine aa8 ?_))
   refine aC (u:=.int .u8 (rowOf (nR g) (pV g).2 m).1) rfl (fun w' hw=>(hat w' hw).get 0 rfl) ?_
   clear hat
   (repeat' (first|refine ax ?_|(refine cZ rfl rfl (fun _=>?_) (fun _=>?_)<;>(first|(exfalso;omega)|skip))))
   intro w5 n5
   have b5W:=b3W.chg n5 fun e=>e
   have oV5:=oVW.keep (nS _) n5.keep
   have hr5:=hrW.keep (nY _) n5.keep
   (repeat' (first|refine ah ?_|refine Wc.skip ?_|refine aa4 ?_))
   refine eG rfl (by kernel_rfl) ?_
   have fin2: ∀w',New w5 w'→k+1≤L.length∧New w3 w':=fun w' n=>hout w' (New.trans n5 n)
   cases hA:(L.take k).any (fun m=>(rowOf (nR g) (pV g).2 m).1 != 8) with
   |true=>
    rw [hA,Bool.true_or] at hs2
    (repeat' (first|refine aa9 ?_|refine dI (by conv=>{lhs;whnf}) ?_|refine ax ?_|refine dN rfl rfl ?_|refine xh ?_))
    intro w6 n6
    (repeat' (first|refine aa0 ?_|refine aa1 ?_|refine af ?_|refine ah ?_|refine ak ?_|refine aH ?_|refine aa7 ?_))
    exact aG (k+1) ⟨rfl,rfl,rfl,rfl,rfl,by rw [hs2];rfl,rfl,trivial⟩ (fin2 w6 n6) (by omega)
   |false=>
    rw [hA,Bool.false_or] at hs2
    (repeat' (first|refine aa9 ?_|refine qE ?_|refine aa8 ?_))
    refine aC (u:=.slice p1 (tN g).length q1) rfl (fun w' hw=>(b5W.chg hw fun e=>e).cell (o:=0) rfl) ?_
    (repeat' (first|refine aa9 ?_|refine qE ?_))
    refine dm oV5 (fun w' hw=>hw.keep) rfl rfl (by omega) (by rw [Int.toNat_natCast];exact hm) fun b o hcell=>?_
    (repeat' (refine qE ?_))
    refine aC (u:=vi m) rfl hcell ?_
    (repeat' (refine qE ?_))
    refine cO hr5 (fun w' hw=>hw.keep) rfl rfl (by omega) (by rw [Int.toNat_natCast];exact g1) fun b o cs hl hR hat=>?_
    obtain rfl:cs=rwC _:=hR
    (repeat' (first|refine qE ?_|refine aa8 ?_))
    refine aC (u:=.int .u8 (rowOf (nR g) (pV g).2 m).1) rfl (fun w' hw=>(hat w' hw).get 0 rfl) ?_
    clear hat
    by_cases e:(rowOf (nR g) (pV g).2 m).1=8
    ·rw [e,show ((8:Nat) != 8)=false by decide] at hs2
     rw [e]
     (repeat' (first|refine dI (by conv=>{lhs;whnf}) ?_|refine ax ?_|refine qE ?_|refine uY ?_|(refine ig rfl rfl (fun _=>?_) (fun _=>?_)<;>(first|(exfalso;omega)|skip))))
     intro w6 n6
     (repeat' (first|refine aa0 ?_|refine aa1 ?_|refine af ?_|refine ah ?_|refine ak ?_|refine aH ?_|refine aa7 ?_))
     exact aG (k+1) ⟨rfl,rfl,rfl,rfl,rfl,by rw [hs2];rfl,rfl,trivial⟩ (fin2 w6 n6) (by omega)
    ·rw [show ((rowOf (nR g) (pV g).2 m).1 != 8)=true by simpa using e] at hs2
     (repeat' (first|refine dI (by conv=>{lhs;whnf}) ?_|refine ax ?_|refine qE ?_|refine uY ?_|(refine ig rfl rfl (fun _=>?_) (fun _=>?_)<;>(first|(exfalso;omega)|skip))))
     intro w6 n6
     (repeat' (first|refine aa0 ?_|refine aa1 ?_|refine af ?_|refine ah ?_|refine ak ?_|refine aH ?_|refine aa7 ?_))
     exact aG (k+1) ⟨rfl,rfl,rfl,rfl,rfl,by rw [hs2];rfl,rfl,trivial⟩ (fin2 w6 n6) (by omega)
 ·obtain rfl:k=L.length:=by omega
  have h1:(L.take L.length).any (fun m=>m == kw)=true:=by rw [List.take_length,List.any_eq_true];exact ⟨kw,hkm,by simp⟩
  have h2:(L.take L.length).any (fun m=>(rowOf (nR g) (pV g).2 m).1 != 8)=true:=by rw [List.take_length,List.any_eq_true];exact ⟨km,afO,by simpa using afP⟩
  rw [h1,h2]
  (repeat' (first|refine aa0 ?_|refine aa1 ?_|refine af ?_|refine aa6 ?_|refine pU ?_|refine ah ?_|refine au ?_|refine ak ?_|refine aA ?_|(refine bJ rfl rfl (fun _=>?_) (fun _=>?_)<;>(first|(exfalso;omega)|skip))))
  exact aF rfl rfl ⟨_,rfl,rfl,New.trans n03 nW⟩
end
end Go.Proofs.YtjecgaiaiophpaaGreatDoor
namespace Go.Proofs.YtjecgaiaiophpaaGreatDoor
open Go
def trL (n:Nat) (T:List Nat):List Nat:=(List.range n).map fun j=>if j∈T then 1 else 0
theorem Gq (n:Nat) (T:List Nat):(trL n T).length=n:=by simp [trL]
theorem Lj {n:Nat} {T:List Nat} {j:Nat} (h:j<n):(trL n T)[j]? =some (if j∈T then 1 else 0):=by
 unfold trL
 rw [List.getElem?_map,List.getElem?_range h];rfl
theorem XE (n:Nat):trL n []=List.replicate n 0:=by
 unfold trL
 refine List.eq_replicate_iff.2 ⟨by simp,fun b hb=>?_⟩
 obtain ⟨j,_,rfl⟩:=List.mem_map.1 hb
 simp
theorem V3 {n:Nat} {T:List Nat} {i:Nat} (h:i<n):(trL n T).set i 1=trL n (T++ [i]):=by
 unfold trL
 rw [vI h]
 apply List.map_congr_left
 intro j _
 by_cases e:j=i
 ·rw [if_pos e,if_pos (by rw [e];simp)]
 ·rw [if_neg e]
  by_cases e2:j∈T
  ·rw [if_pos e2,if_pos (List.mem_append_left _ e2)]
  ·rw [if_neg e2,if_neg (by simp [e2,e])]
section
variable {N:Nat→Bn} {fl:Nm→Bool}
theorem II {order:List Nat}: ∀(f:Nat) (S:St), ∀r∈(doneGo N fl order f S).1, ∀i∈r.tried,i∈order
 |0,S,r,h=>by simp [doneGo] at h
 |f+1,S,r,h=>by
  have hk:=(uo (N:=N) (fl:=fl) order S).2.2.2.2
  rw [doneGo] at h
  dsimp only at h
  have hd: ∀r∈(if (oI N fl order S).1.tried=[]∧(oI N fl order S).1.waits=[] then [] else [(oI N fl order S).1]), ∀i∈r.tried,i∈order:=by
   intro r hr i hi
   split at hr
   ·cases hr
   ·rw [List.mem_singleton] at hr
    subst hr
    exact (hk i hi).1
  split at h
  ·exact hd r h
  ·rcases List.mem_append.1 h with h|h
   ·exact hd r h
   ·exact II f _ r h
end
theorem BI {g:Giv} {i:Nat} (hi:i<g.tree.length): ∀k∈lwM g i,k∈(nR g i).wants:=by
 intro k hk
 unfold lwM at hk
 have hN:nR g i=wL g i:=by unfold nR;rw [if_pos hi]
 rw [hN,wz]
 rcases List.mem_append.1 hk with h|h
 ·exact List.mem_append_left _ h
 ·refine List.mem_append_right _ (zh.2 ?_)
  obtain ⟨e,he,h2⟩:=List.mem_filterMap.1 h
  unfold uK at h2
  split at h2
  ·rename_i hc
   refine ⟨e,he,hc.1,hc.2.1,?_,h2⟩
   have h3:=hc.2.2
   rw [hN] at h3
   unfold wL at h3
   dsimp only at h3
   by_cases hd:qK g.tree i=true
   ·exact hd
   ·rw [if_neg hd] at h3;exact absurd rfl h3
  ·cases h2
theorem XF {g:Giv} {i:Nat} (hi:i<g.tree.length) (hr:(nR g i).reason=0): ∀k∈(nR g i).wants,k∈lwM g i:=by
 intro k hk
 have hN:nR g i=wL g i:=by unfold nR;rw [if_pos hi]
 rw [hN,wz] at hk
 unfold lwM
 rcases List.mem_append.1 hk with h|h
 ·exact List.mem_append_left _ h
 ·refine List.mem_append_right _ (List.mem_filterMap.2 ?_)
  obtain ⟨e,he,h1,h2,h3,h4⟩:=zh.1 h
  refine ⟨e,he,?_⟩
  unfold uK
  rw [hN] at hr ⊢
  have hc:=(IB hr h3).1
  have hcn:(wL g i).card≠none:=by
   unfold wL
   dsimp only
   rw [if_pos h3]
   exact hc
  rw [if_pos ⟨h1,h2,hcn⟩,h4]
theorem TK {g:Giv} (hok:oG g.tree=true) {i:Nat} (hi:i<g.tree.length):
 let F:=(pV g).1.flatMap fun r=>r.tried
 let R:=fun k=>(rowOf (nR g) (pV g).2 k).1
 (R i=0∨R i=7↔i∈F)∧(R i=0∨R i=7→ ∀k∈lwM g i,R k=0)∧(R i=8→ ∃k∈lwM g i,R k≠0):=by
 intro F R
 have hin:=vJ hok
 obtain ⟨v,f⟩:=EZ (nR g) g.fails.contains g.tree.length
 have run:Run (nR g) g.fails.contains S0 F (pV g).2:=Run.done _ _
 have hm:=run.mem
 have h2:(pV g).2 i=2→(nR g i).reason=0→R i=7:=fun h hr=>by
  show (rowOf (nR g) (pV g).2 i).1=7
  unfold rowOf
  rw [if_neg (by rw [not_or];exact ⟨fun e=>e hr,by rw [h];decide⟩),if_pos h]
 have h7:R i=7→(pV g).2 i=2:=fun h=>by
  have h:(rowOf (nR g) (pV g).2 i).1=7:=h
  have hle:=Bf g i
  unfold rowOf at h
  split at h
  ·dsimp only at h;omega
  ·split at h
   ·assumption
   ·cases h
 have hS:R i=0∨R i=7→(pV g).2 i=1∨(pV g).2 i=2:=fun h=>h.imp (fun h=>(vZ.1 h).2) h7
 refine ⟨⟨fun h=>?_,fun h=>?_⟩,fun h k hk=>?_,fun h=>?_⟩
 ·have:=(hm.2.2 i).1 (by rcases hS h with e|e<;>rw [e]<;>decide)
  exact this.resolve_left fun e=>e rfl
 ·obtain ⟨p,hp⟩:=List.mem_iff_getElem?.1 h
  have hr:=(run.take p i hp).1
  have hne:=(hm.2.2 i).2 (.inr h)
  have hle:(pV g).2 i≤2:=v.le i
  by_cases e:(pV g).2 i=1
  ·exact .inl (vZ.2 ⟨hr,e⟩)
  ·exact .inr (h2 (by omega) hr)
 ·have hb:Bnd (nR g) g.fails.contains k:=by
   rcases hS h with e|e
   ·exact (v.b i e).inv.2.2 k (BI hi k hk)
   ·exact (v.f i e).2.2 k (BI hi k hk)
  exact vZ.2 ⟨hb.inv.1,f.bnd v hin hb (hin i hi k (BI hi k hk))⟩
 ·obtain ⟨hr,h1,h2⟩:=yx (Bf g i) h
  have h1:(pV g).2 i≠1:=h1
  have h2:(pV g).2 i≠2:=h2
  have hle:(pV g).2 i≤2:=v.le i
  have h0:(pV g).2 i=0:=by omega
  obtain ⟨k,hk,hk1⟩:=f i hi hr h0
  exact ⟨k,XF hi hr k hk,fun e=>hk1 (vZ.1 e).2⟩
theorem NY {g:Giv} (hok:oG g.tree=true):
 let F:=(pV g).1.flatMap fun r=>r.tried
 F.Nodup∧ ∀T i X,F=T++i::X→i<g.tree.length∧ ∀k∈lwM g i,k<g.tree.length∧k∈T:=by
 intro F
 have hin:=vJ hok
 have run:Run (nR g) g.fails.contains S0 F (pV g).2:=Run.done _ _
 refine ⟨run.mem.1,fun T i X e=>?_⟩
 have hp:F[T.length]? =some i:=by rw [e,List.getElem?_append_right (Nat.le_refl _),Nat.sub_self];rfl
 have hi:i<g.tree.length:=by
  have him:i∈F:=List.mem_of_getElem? hp
  obtain ⟨r,hr,hir⟩:=List.mem_flatMap.1 him
  exact (FM.1 (II _ _ r hr i hir)).1
 refine ⟨hi,fun k hk=>⟨hin i hi k (BI hi k hk),?_⟩⟩
 have:=(run.take T.length i hp).2 k (BI hi k hk)
 rw [show F.take T.length=T by rw [e,List.take_left]] at this
 exact this.resolve_left fun e=>e rfl
end Go.Proofs.YtjecgaiaiophpaaGreatDoor
namespace Go.Proofs.YtjecgaiaiophpaaGreatDoor
open Go
end Go.Proofs.YtjecgaiaiophpaaGreatDoor
namespace Go.Proofs.YtjecgaiaiophpaaGreatDoor
open Go Wk
open Go.RowKit (Below)
attribute [local irreducible] Go.Calls
section
variable {P:Program} {n:Nat} {ds:List Deferred} {Q:Po} {F:Fr} {w:World} {ops rest:List Oper} {d:Nat} {ty t t':TypeId} {pos:String} {aft:Array Edge} {C:World→Prop} {K:Fr→Prop}
theorem iL {x y:Operand} {a b:Bool} [ht:Und P t .bool] (hx:ev n F x=.bool a) (hy:ev n F y=.bool b) (c:Wq P n ds C K ops rest (upd F d (.bool !(a == b)))):Wq P n ds C K ops (⟨some d,.binOp .neq t x y t',ty,pos,aft,none⟩::rest) F:=
 Wq.val (fun w _=>by simp only [execOp,hx,hy,Sem.run_bind,Et,Result.andThen_ok,run_neq_bool w t a b ht.h,Sem.run_pure]) c
end
end Go.Proofs.YtjecgaiaiophpaaGreatDoor
namespace Go.Proofs.YtjecgaiaiophpaaGreatDoor
open Go Wk
open Go.RowKit (Below)
attribute [local irreducible] Go.Calls
section
variable {Pg:Nat→Prop} {w:World} {g:Giv} {tv cv fv gv:Value}
theorem TL (r:RdG Pg w g tv cv fv gv) (z:SzG g) (sh:NR g):
 Calls Tryz.prog 6 #[.agg #[tv,cv,fv,gv]] w (Ret fun v w'=>v=.bool true∧New w w'):=by
 obtain ⟨ta,tc,rfl,_,_⟩:=r.t.form
 obtain ⟨ca,cc,rfl,_,_⟩:=r.c.form
 obtain ⟨fa,fc,rfl,_,_⟩:=r.f.form
 obtain ⟨ga,gc,rfl,_,_⟩:=r.g.form
 refine nI Tryz.func6 rfl Tryz.ntmps6 rfl ?_
 (repeat' (first|refine au ?_|refine ak ?_))
 refine bC rfl fun w1 b1 n1 s1=>?_
 replace b1:Bk w1 w.heap.size 26 [.slice ta g.tree.length tc,.slice ca g.cards.length cc,.slice fa g.fails.length fc,.slice ga g.gone.length gc]:=b1
 (repeat' (first|refine aa1 ?_|refine af ?_|refine ah ?_|refine au ?_|refine ak ?_))
 refine bM b1 rfl rfl ?_
 refine aB (VO (RdG.keep r n1.keep pW) z) rfl ?_
 rintro _ w2 ⟨⟨xt,xc,xf,xg,rfl,ox⟩,n2⟩
 have rx:=ox.rd
 obtain ⟨xta,xtc,rfl,_,_⟩:=rx.t.form
 obtain ⟨xca,xcc,rfl,_,_⟩:=rx.c.form
 obtain ⟨xfa,xfc,rfl,_,_⟩:=rx.f.form
 obtain ⟨xga,xgc,rfl,_,_⟩:=rx.g.form
 refine Wl.alloc fun w3 b3 n3 s3=>?_
 refine aX (new:=[.slice xta g.tree.length xtc,.slice xca g.cards.length xcc,.slice xfa g.fails.length xfc,.slice xga g.gone.length xgc]) b3 rfl rfl rfl rfl (show (4:Nat)≤4 from Nat.le_refl 4) sl4 fun w4 b4 c4 s4=>?_
 have n24:New w2 w4:=(Chg.trans n3.any c4 fun _ _ e=>e).toNew fun k hk e=>by omega
 clear b3 n3 c4 ox
 have n04:=New.trans n1 (New.trans n2 n24)
 have b14:=b1.chg (New.trans n2 n24) fun e=>e
 have rx4:=rx.keep n24.keep pW
 clear rx
 (repeat' (first|refine af ?_|refine ah ?_|refine au ?_|refine ak ?_))
 refine bM b4 rfl rfl ?_
 refine aB (E8 rx4 sh) rfl ?_
 rintro _ w5 ⟨hr,n5⟩
 obtain ⟨p1,l1,q1,p2,l2,q2,p3,l3,q3,p4,l4,q4,rfl,hR,hl1,hl0⟩:=hr.form
 (repeat' (first|refine aa0 ?_|refine pG ?_))
 refine Wl.alloc fun w6 b6 n6 s6=>?_
 refine aX (new:=[.slice p1 l1 q1,.slice p2 l2 q2,.slice p3 l3 q3,.slice p4 l4 q4]) b6 rfl rfl rfl rfl (show (4:Nat)≤4 from Nat.le_refl 4) sl4 fun w7 b7 c7 s7=>?_
 have n57:New w5 w7:=(Chg.trans n6.any c7 fun _ _ e=>e).toNew fun k hk e=>by omega
 clear b6 n6 c7
 have n47:=New.trans n5 n57
 have n07:=New.trans n04 n47
 have b17:=b14.chg n47 fun e=>e
 have b47:=b4.chg n47 fun e=>e
 have rx7:=rx4.keep n47.keep pW
 have hR7:=fun e=>((hR e).new n57).mono (Pb':=fun b=>b<w7.heap.size) fun b hb _=>hb
 clear hR b14 b4 rx4 b1 n1 n2 n24
 clear b17
 generalize hb8:w5.heap.size=b8 at*
 generalize hb4:w2.heap.size=xb at*
 by_cases he:ql g=0
 ·have hok:=(wo.1 he).1
  have htl:=oP hok
  have hpos:=sH hok
  have hR8:=hR7 he
  have hrl:=vK g
  have hl:=hl1 he
  subst hl
  have hl2:l2=(pV g).1.length:=by
   obtain ⟨_,⟨_,_,e⟩,_⟩:=hR8.form
   injection e
  subst hl2
  have hrn:(pV g).1.length≤g.tree.length+1:=IA _ _
  rw [he]
  (repeat' (first|refine aa0 ?_|refine aa1 ?_|refine af ?_|refine ah ?_|refine au ?_|refine ak ?_|refine Wc.skip ?_|refine aa4 ?_|(refine qf (fun _=>?_) (fun _=>?_)<;>(first|(exfalso;omega)|skip))))
  refine bM b47 rfl rfl ?_
  refine bM b7 rfl rfl ?_
  refine aB (P8 (rx7) hok (hR8.rows.rd (nP _)) ⟨_,_,_,rfl⟩ ⟨_,_,_,rfl⟩ ⟨_,_,_,rfl⟩) rfl ?_
  rintro _ w8 ⟨⟨lv,rs,rfl,L8,hrs⟩,n8⟩
  have aaS:rs.length=g.tree.length:=by
   have:=congrArg List.length hrs
   simpa using this
  obtain ⟨la,lc,rfl,_,_⟩:=L8.row.form
  have b48:=b47.chg n8 fun e=>e
  have b78:=b7.chg n8 fun e=>e
  have n08:=New.trans n07 n8
  have hR9:=hR8.new n8
  have rx8:=rx7.keep n8.keep pW
  clear hR8 rx7 b47 b7 hr hR7
  (repeat' (first|refine aa0 ?_|refine aa1 ?_|refine af ?_|refine pG ?_|refine aa6 ?_|refine aV rfl ?_|refine ah ?_|refine au ?_|refine ak ?_|refine aa5 ?_))
  refine ay (u:=.slice p1 g.tree.length q1) rfl (b78.cell (o:=0) rfl) ?_
  (repeat' (first|refine aa6 ?_|refine pz ?_|refine aa5 ?_))
  refine ay (u:=.slice xta g.tree.length xtc) rfl (b48.cell (o:=0) rfl) ?_
  (repeat' (first|refine aa0 ?_|refine aa6 ?_|refine pI ?_|refine pz ?_|refine aa5 ?_|(refine qf (fun _=>?_) (fun _=>?_)<;>(first|(exfalso;omega)|skip))))
  refine ay (u:=.slice p2 (pV g).1.length q2) rfl (b78.cell (o:=1) rfl) ?_
  (repeat' (first|refine aa6 ?_|refine pz ?_|refine aa5 ?_))
  refine ay (u:=.slice xta g.tree.length xtc) rfl (b48.cell (o:=0) rfl) ?_
  (repeat' (first|refine af ?_|refine aa6 ?_|refine pI ?_|refine pz ?_|refine ah ?_|refine au ?_|refine ak ?_|refine Wc.skip ?_|refine aa4 ?_|refine aa5 ?_|refine aa7 ?_|(refine bH rfl rfl (fun _=>?_) (fun _=>?_)<;>(first|(exfalso;omega)|skip))))
  refine ay (u:=.slice xta g.tree.length xtc) rfl (b48.cell (o:=0) rfl) ?_
  (repeat' (refine pz ?_))
  refine eF (f:=viN) (y0:=0) (Pe:=NoB) rfl rfl rfl (by omega) (by omega) (by omega) fun tv9 w9 oT n9=>?_
  rw [Int.toNat_natCast, ←XE] at oT
  obtain ⟨tg,tcp,htv,aaT,aiD,aiE⟩:=oT.blk (by intro e;have h9:=Gq g.tree.length [];rw [e] at h9;have h9:0=g.tree.length:=h9;omega)
  rw [Gq] at htv
  subst htv
  have hlt:=NY hok
  have hlr:=fun i (hi:i<g.tree.length)=>TK hok hi
  have htn: ∀(q:Nat) (r:Rnd),(pV g).1[q]? =some r→q+1<(pV g).1.length→r.tried≠ []:=fun q r=>Em _ _ q r
  have hrows:=fun k (hk:k<g.tree.length)=>vM (g:=g) hk
  dsimp only at hlt hlr
  obtain ⟨hnd,htr⟩:=hlt
  have rnd:=(((hR9.rounds.rd E5).mono (Pb':=fun b=>b<w8.heap.size) E5 fun b hb _=>hb).keep Ej n9.keep)
  have rrw:=(((hR9.rows.rd (nP _)).mono (Pb':=fun b=>b<w8.heap.size) (nP _) fun b hb _=>hb).keep (nY _) n9.keep)
  have rls:=(((L8.row.rd (nP _)).mono (Pb':=fun b=>b<w8.heap.size) (nP _) fun b hb _=>hb).keep (nY _) n9.keep)
  have rel: ∀x∈rs,RdS (Wk.one viN) 1 (fun b=>b<w8.heap.size) w9 x.1 x.2:=fun x hx=>(((L8.el x hx).rd (nU _)).mono (Pb':=fun b=>b<w8.heap.size) (nU _) fun b hb _=>hb).keep (nS _) n9.keep
  have rxx:RdG (fun b=>b<w8.heap.size) w9 g (.slice xta g.tree.length xtc) (.slice xca g.cards.length xcc) (.slice xfa g.fails.length xfc) (.slice xga g.gone.length xgc):=
   RdG.keep ⟨rx8.t.mono yC fun b hb _=>hb,rx8.c.mono Kq fun b hb _=>hb,rx8.f.mono (nU _) fun b hb _=>hb,rx8.g.mono (nU _) fun b hb _=>hb⟩ n9.keep pW
  have hget: ∀i,i<g.tree.length→ ∃v,rs[i]? =some (v,lwM g i):=fun i hi=>by
   obtain ⟨x,hx⟩:=nV rs (k:=i) (by omega)
   have:=congrArg (fun l=>l[i]?) hrs
   rw [List.getElem?_map,List.getElem?_map,hx,List.getElem?_range hi] at this
   have h9:x.2=lwM g i:=by simpa using this
   exact ⟨x.1,by rw [hx, ←h9]⟩
  have aaU: ∀i,(lwM g i).length≤1+(nZ g.tree).length:=fun i=>by
   unfold lwM
   have h1:=List.length_filterMap_le (uK g i) (nZ g.tree)
   have h2:(uV g.tree i).length≤1:=by unfold uV;split<;>simp
   rw [List.length_append];omega
  have hel:=tK hok g.tree.length (Nat.le_refl _)
  rw [show (List.range g.tree.length).flatMap (xH g.tree)=nZ g.tree from rfl] at hel
  have b49:=b48.chg n9 fun e=>e
  have b79:=b78.chg n9 fun e=>e
  have YQ:=b48.lt
  have aaw:=b78.lt
  have aaT:w8.heap.size≤tg:=aaT
  have hkp: ∀W,Chg (fun k=>k=tg) w9 W→Keep (fun b=>b<w8.heap.size) w9 W:=fun W c=>c.keep fun b _ (hb:b<w8.heap.size) e=>by omega
  have n09:=New.trans n08 n9
  have hz9:=n09.size
  have hz8:=n08.size
  rw [aaS] at rls
  generalize (pV g).1=RL at*
  clear hR9 L8 hrs b48 b78 rx8 hl1 hl0
  (repeat' (first|refine aa1 ?_|refine af ?_|refine ah ?_|refine au ?_|refine ak ?_|refine Wc.block ?_))
  refine aP (σ:=Nat) (fun q=>[(3,pT xb),(4,pT b8),(6,.slice la g.tree.length lc),(8,.slice (some ⟨tg,0,none⟩) g.tree.length tcp),(9,vi q)]) (fun q W=>q≤RL.length∧nO (Wk.one viN) 3 1 (fun b=>w8.heap.size≤b) NoB W (.slice (some ⟨tg,0,none⟩) g.tree.length tcp) (trL g.tree.length ((RL.take q).flatMap fun r=>r.tried))∧Chg (fun k=>k=tg) w9 W) (fun q=>RL.length-q) 0
   ⟨rfl,rfl,by rw [aaS];rfl,rfl,rfl,trivial⟩ ⟨Nat.zero_le _,oT,aQ _ _⟩ ?_
  clear oT
  rintro q G W ⟨hq,oT,cW⟩
  simp only [oU]
  have b4W:=b49.chg cW fun e=>by omega
  have b7W:=b79.chg cW fun e=>by omega
  have TM:=rnd.keep Ej (hkp W cW)
  skip
  refine au ?_
  skip
  refine au ?_
  (repeat' (first|refine aa0 ?_|refine ak ?_|refine aa5 ?_))
  refine ay (u:=.slice p2 RL.length q2) rfl (b7W.cell (o:=1) rfl) ?_
  (repeat' (first|refine af ?_|refine pz ?_|refine ah ?_|refine Wc.skip ?_|refine aJ ?_|refine aK ?_|refine aI ?_|refine aO ?_|refine aa3 ?_|refine aa4 ?_|refine oZ (fun _=>?_) (fun _=>?_)))
  ·obtain ⟨r,hr⟩:=nV RL (k:=q) (by omega)
   have htq:RL.length≤q+1∨r.tried.length≠0:=by
    rcases Nat.lt_or_ge (q+1) RL.length with h|h
    ·exact .inr fun e=>htn q r hr h (List.eq_nil_of_length_eq_zero e)
    ·exact .inl h
   refine au ?_
   skip
   refine Wc.block ?_
   skip
   refine dV (fun F W'=>agrees F [(3,pT xb),(4,pT b8),(6,.slice la g.tree.length lc),(8,.slice (some ⟨tg,0,none⟩) g.tree.length tcp),(9,vi q)]∧W'=W) ?_ ?_
   ·(repeat' (first|refine au ?_|refine ak ?_|refine aa5 ?_))
    refine ay (u:=.slice p2 RL.length q2) rfl (b7W.cell (o:=1) rfl) ?_
    (repeat' (refine aa0 ?_))
    refine aU TM rfl rfl (by omega) (by rw [Int.toNat_natCast];exact hr) fun b o cs hl hR hat=>?_
    obtain ⟨tv,wv,rfl,oTv,_⟩:=hR
    obtain ⟨tva,tvc,rfl,aaV,V4⟩:=oTv.form
    simp only [maxLen] at V4
    (repeat' (refine aa5 ?_))
    refine ay (u:=.slice tva r.tried.length tvc) rfl (hat.get 0 rfl) ?_
    clear hat
    (repeat' (first|refine aa0 ?_|refine af ?_|refine aa6 ?_|refine qi ?_|refine pI ?_|refine pz ?_|refine ah ?_|refine Wc.skip ?_|refine aa4 ?_|refine aa5 ?_|refine bJ rfl rfl (fun _=>?_) (fun _=>?_)))
    ·refine ay (u:=.slice p2 RL.length q2) rfl (b7W.cell (o:=1) rfl) ?_
     (repeat' (first|refine af ?_|refine aa6 ?_|refine pU ?_|refine pz ?_|refine ah ?_|refine Wc.skip ?_|refine aa4 ?_|refine Aq ?_|(refine oZ (fun _=>?_) (fun _=>?_)<;>(first|(exfalso;omega)|skip))))
     exact cu ⟨⟨rfl,rfl,rfl,rfl,rfl,trivial⟩,rfl⟩
    ·exact cu ⟨⟨rfl,rfl,rfl,rfl,rfl,trivial⟩,rfl⟩
   ·rintro F3 W3 ⟨hF,rfl⟩
    rw [←oN hF]
    simp only [oU]
    clear hF
    (repeat' (first|refine aa1 ?_|refine af ?_|refine ah ?_|refine au ?_|refine ak ?_|refine Wc.block ?_))
    obtain ⟨P,hP⟩: ∃P,P=(RL.take q).flatMap fun r=>r.tried:=⟨_,rfl⟩
    rw [←hP] at oT
    have hFs: ∀(k i:Nat),r.tried[k]? =some i→ ∃X,(RL.flatMap fun r=>r.tried)=(P++r.tried.take k)++i::X:=fun k i hk=>by
     refine ⟨r.tried.drop (k+1)++(RL.drop (q+1)).flatMap fun r=>r.tried,?_⟩
     have h1:RL=RL.take q++r::RL.drop (q+1):=by rw [←drop_cons hr,List.take_append_drop]
     have h2:r.tried=r.tried.take k++i::r.tried.drop (k+1):=by rw [←drop_cons hk,List.take_append_drop]
     rw [hP]
     conv=>lhs;rw [h1,List.flatMap_append,List.flatMap_cons];rw [h2]
     simp
    refine aP (σ:=Nat) (fun k=>[(3,pT xb),(4,pT b8),(6,.slice la g.tree.length lc),(8,.slice (some ⟨tg,0,none⟩) g.tree.length tcp),(9,vi q),(10,vi k)]) (fun k W=>k≤r.tried.length∧nO (Wk.one viN) 3 1 (fun b=>w8.heap.size≤b) NoB W (.slice (some ⟨tg,0,none⟩) g.tree.length tcp) (trL g.tree.length (P++r.tried.take k))∧Chg (fun k=>k=tg) w9 W) (fun k=>r.tried.length-k) 0
     ⟨rfl,rfl,rfl,rfl,rfl,rfl,trivial⟩ ⟨Nat.zero_le _,by rw [List.take_zero,List.append_nil];exact oT,cW⟩ ?_
    clear oT cW b4W b7W TM
    rintro k G4 W ⟨hk,oT,cW⟩
    simp only [oU]
    have b7W:=b79.chg cW fun e=>by omega
    have TM:=rnd.keep Ej (hkp W cW)
    have aaW:=rls.keep (nY _) (hkp W cW)
    (repeat' (first|refine aa0 ?_|refine au ?_|refine ak ?_|refine aa5 ?_))
    refine ay (u:=.slice p2 RL.length q2) rfl (b7W.cell (o:=1) rfl) ?_
    (repeat' (refine aa0 ?_))
    refine aU TM rfl rfl (by omega) (by rw [Int.toNat_natCast];exact hr) fun b o cs hl hR hat=>?_
    obtain ⟨tv,wv,rfl,oTv,_⟩:=hR
    obtain ⟨tva,tvc,rfl,aaV,V4⟩:=oTv.form
    simp only [maxLen] at V4
    (repeat' (refine aa5 ?_))
    refine ay (u:=.slice tva r.tried.length tvc) rfl (hat.get 0 rfl) ?_
    clear hat
    (repeat' (first|refine aa0 ?_|refine aa1 ?_|refine af ?_|refine pz ?_|refine ah ?_|refine au ?_|refine ak ?_|refine Wc.block ?_|refine Wc.skip ?_|refine aJ ?_|refine aK ?_|refine aH ?_|refine aI ?_|refine aO ?_|refine aa3 ?_|refine aa4 ?_|refine aa5 ?_|refine aa7 ?_|refine oZ (fun _=>?_) (fun _=>?_)))
    ·obtain ⟨i,hi⟩:=nV r.tried (k:=k) (by omega)
     obtain ⟨X,hX⟩:=hFs k i hi
     obtain ⟨hin,hwl⟩:=htr _ _ _ hX
     have hnt:i∉P++r.tried.take k:=fun e=>by
      rw [hX] at hnd
      exact (List.nodup_append.1 hnd).2.2 i e i List.mem_cons_self rfl
     have htk:=Lj (T:=P++r.tried.take k) hin
     rw [if_neg hnt] at htk
     have oTr:=oT.rd (nU _)
     refine ay (u:=.slice p2 RL.length q2) rfl (b7W.cell (o:=1) rfl) ?_
     (repeat' (refine aa0 ?_))
     refine aU TM rfl rfl (by omega) (by rw [Int.toNat_natCast];exact hr) fun b o cs hl hR hat=>?_
     obtain ⟨tv,wv,rfl,oTv,_⟩:=hR
     obtain ⟨tva,tvc,rfl,aaV,V4⟩:=oTv.form
     simp only [maxLen] at V4
     (repeat' (refine aa5 ?_))
     refine ay (u:=.slice tva r.tried.length tvc) rfl (hat.get 0 rfl) ?_
     clear hat
     (repeat' (refine aa0 ?_))
     refine bI (oTv.rd (nU _)) rfl rfl (by omega) (by rw [Int.toNat_natCast];exact hi) fun b o hcell=>?_
     refine ay (u:=vi i) rfl hcell ?_
     (repeat' (first|refine aa0 ?_|refine aa1 ?_|refine af ?_|refine aa6 ?_|refine pI ?_|refine pz ?_|refine ah ?_|refine au ?_|refine ak ?_|(refine oZ (fun _=>?_) (fun _=>?_)<;>(first|(exfalso;omega)|skip))|(refine bZ rfl rfl (fun _=>?_) (fun _=>?_)<;>(first|(exfalso;omega)|skip))))
     refine bI oTr rfl rfl (by omega) (by rw [Int.toNat_natCast];exact htk) fun b o hcell=>?_
     (repeat' (refine aa6 ?_))
     refine ay (u:=vi (0:Nat)) rfl hcell ?_
     (repeat' (first|refine aa0 ?_|refine af ?_|refine aa6 ?_|refine pI ?_|refine ah ?_|refine au ?_|refine ak ?_|refine Wc.skip ?_|refine aa4 ?_|(refine bH rfl rfl (fun _=>?_) (fun _=>?_)<;>(first|(exfalso;omega)|skip))))
     refine bI oTr rfl rfl (by omega) (by rw [Int.toNat_natCast];exact htk) fun b o hcell=>?_
     refine ay (u:=vi (0:Nat)) rfl hcell ?_
     (repeat' (refine aa7 ?_))
     refine dJ (b:=tg) (off:=0) (l:=g.tree.length) (cap:=tcp) rfl rfl (by omega) (by omega) ?_
     refine dQ (f:=viN) (q:=1) (j:=i) (cap:=tcp) oT (by rw [Gq]) (by rw [Gq];omega) (by show Value.pointer (some ⟨tg,0+(i:Int).toNat*1,none⟩)=_;simp) rfl rfl rfl fun w10 o10 c10=>?_
     have hT2:P++r.tried.take (k+1)=(P++r.tried.take k)++ [i]:=by rw [take_snoc hi,List.append_assoc]
     rw [V3 hin, ←hT2] at o10
     have Y2:Chg (fun k=>k=tg) w9 w10:=Chg.trans cW c10 fun k _ e=>by injection e with e;exact e.symm
     obtain ⟨v,hv⟩:=hget i hin
     have V5:=rel _ (List.mem_of_getElem? hv)
     obtain ⟨va,vc,hve,hvc,afQ⟩:=V5.form
     dsimp only at hve
     subst hve
     have hll:=aaU i
     (repeat' (first|refine aa1 ?_|refine af ?_|refine ah ?_|refine au ?_|refine ak ?_|refine Wc.block ?_))
     refine aP (σ:=Nat) (fun m=>[(3,pT xb),(4,pT b8),(6,.slice la g.tree.length lc),(8,.slice (some ⟨tg,0,none⟩) g.tree.length tcp),(9,vi q),(10,vi k),(11,vi i),(12,vi m)]) (fun m W=>m≤(lwM g i).length∧W=w10) (fun m=>(lwM g i).length-m) 0
      ⟨rfl,rfl,rfl,rfl,rfl,rfl,rfl,rfl,trivial⟩ ⟨Nat.zero_le _,rfl⟩ ?_
     rintro m G5 w10 ⟨hm,rfl⟩
     simp only [oU]
     have aaX:=rls.keep (nY _) (hkp w10 Y2)
     have afR:=V5.keep (nS _) (hkp w10 Y2)
     have oT2:=o10.rd (nU _)
     (repeat' (first|refine aa0 ?_|refine au ?_|refine ak ?_))
     refine aU aaX rfl rfl (by omega) (by rw [Int.toNat_natCast];exact hv) fun b o cs hl hR hat=>?_
     obtain rfl:cs=[Value.slice va (lwM g i).length vc]:=hR
     refine ay (u:=.slice va (lwM g i).length vc) rfl (hat.get 0 rfl) ?_
     clear hat
     (repeat' (first|refine aa0 ?_|refine aa1 ?_|refine af ?_|refine pz ?_|refine ah ?_|refine au ?_|refine ak ?_|refine Wc.block ?_|refine Wc.skip ?_|refine aJ ?_|refine aK ?_|refine aH ?_|refine aI ?_|refine aO ?_|refine aa3 ?_|refine aa4 ?_|refine aa7 ?_|refine oZ (fun _=>?_) (fun _=>?_)))
     ·obtain ⟨mm,hmm⟩:=nV (lwM g i) (k:=m) (by omega)
      obtain ⟨hmn,hmt⟩:=hwl mm (List.mem_of_getElem? hmm)
      have htm:=Lj (T:=P++r.tried.take (k+1)) hmn
      rw [if_pos (by rw [hT2];exact List.mem_append_left _ hmt)] at htm
      refine aU aaX rfl rfl (by omega) (by rw [Int.toNat_natCast];exact hv) fun b o cs hl hR hat=>?_
      obtain rfl:cs=[Value.slice va (lwM g i).length vc]:=hR
      refine ay (u:=.slice va (lwM g i).length vc) rfl (hat.get 0 rfl) ?_
      clear hat
      (repeat' (refine aa0 ?_))
      refine bI afR rfl rfl (by omega) (by rw [Int.toNat_natCast];exact hmm) fun b o hcell=>?_
      refine ay (u:=vi mm) rfl hcell ?_
      refine bI oT2 rfl rfl (by omega) (by rw [Int.toNat_natCast];exact htm) fun b o hcell=>?_
      refine ay (u:=vi (1:Nat)) rfl hcell ?_
      (repeat' (first|refine aa0 ?_|refine aa1 ?_|refine af ?_|refine ah ?_|refine ak ?_|refine Wc.skip ?_|refine aH ?_|refine aa4 ?_|refine aa7 ?_|(refine bJ rfl rfl (fun _=>?_) (fun _=>?_)<;>(first|(exfalso;omega)|skip))))
      exact aG (m+1) ⟨rfl,rfl,rfl,rfl,rfl,rfl,rfl,rfl,trivial⟩ ⟨by omega,rfl⟩ (by omega)
     ·exact aG (k+1) ⟨rfl,rfl,rfl,rfl,rfl,rfl,trivial⟩ ⟨by omega,o10,Y2⟩ (by omega)
    ·obtain rfl:k=r.tried.length:=by omega
     have hfin:P++r.tried.take r.tried.length=(RL.take (q+1)).flatMap fun r=>r.tried:=by
      rw [List.take_length,take_snoc hr,List.flatMap_append, ←hP];simp
     rw [hfin] at oT
     exact aG (q+1) ⟨rfl,rfl,rfl,rfl,rfl,trivial⟩ ⟨by omega,oT,cW⟩ (by omega)
  ·obtain rfl:q=RL.length:=by omega
   rw [List.take_length] at oT
   generalize hF:RL.flatMap (fun r=>r.tried)=F at*
   have oTr:=oT.rd (nU _)
   have aaW:=rls.keep (nY _) (hkp W cW)
   have afS:=rrw.keep (nY _) (hkp W cW)
   clear oT TM
   (repeat' (first|refine aa1 ?_|refine af ?_|refine ah ?_|refine au ?_|refine ak ?_|refine Wc.block ?_))
   refine aP (σ:=Nat) (fun i=>[(3,pT xb),(4,pT b8),(6,.slice la g.tree.length lc),(8,.slice (some ⟨tg,0,none⟩) g.tree.length tcp),(13,vi i)]) (fun i W'=>i≤g.tree.length∧New W W') (fun i=>g.tree.length-i) 0 ⟨rfl,rfl,rfl,rfl,rfl,trivial⟩ ⟨Nat.zero_le _,aQ _ _⟩ ?_
   rintro i G6 W2 ⟨hi,n2⟩
   simp only [oU]
   have b4x:=b4W.chg n2 fun e=>e
   have b7x:=b7W.chg n2 fun e=>e
   have Y3:=afS.keep (nY _) n2.keep
   (repeat' (first|refine aa0 ?_|refine au ?_|refine ak ?_|refine aa5 ?_))
   refine ay (u:=.slice xta g.tree.length xtc) rfl (b4x.cell (o:=0) rfl) ?_
   (repeat' (first|refine af ?_|refine pz ?_|refine ah ?_|refine au ?_|refine ak ?_|refine Wc.block ?_|refine Wc.skip ?_|refine aJ ?_|refine aK ?_|refine aI ?_|refine aO ?_|refine aa3 ?_|refine aa4 ?_|refine aa5 ?_|refine oZ (fun _=>?_) (fun _=>?_)))
   ·have hin:i<g.tree.length:=by omega
    obtain ⟨hq1,hq2,hq3⟩:=hlr i hin
    have g1:=hrows i hin
    refine ay (u:=.slice p1 g.tree.length q1) rfl (b7x.cell (o:=0) rfl) ?_
    (repeat' (refine aa0 ?_))
    refine aU Y3 rfl rfl (by omega) (by rw [Int.toNat_natCast];exact g1) fun b o cs hl hR hat=>?_
    obtain rfl:cs=rwC _:=hR
    refine bG hat rfl rfl ?_
    clear hat
    refine Wl.alloc fun w13 b13 n13 s13=>?_
    refine aX (new:=rwC (rowOf (nR g) (pV g).2 i)) b13 rfl rfl rfl rfl (show (3:Nat)≤3 from Nat.le_refl 3) (by intro c hc;simp at hc;rcases hc with rfl|rfl|rfl<;>rfl) fun w14 b14 c14 s14=>?_
    replace b14:Bk w14 W2.heap.size 39 (rwC (rowOf (nR g) (pV g).2 i)):=b14
    have n214:New W2 w14:=(Chg.trans n13.any c14 fun _ _ e=>e).toNew fun k hk e=>by omega
    clear b13 n13 c14
    obtain ⟨v,hv⟩:=hget i hin
    have V5:=rel _ (List.mem_of_getElem? hv)
    obtain ⟨va,vc,hve,hvc,afQ⟩:=V5.form
    dsimp only at hve
    subst hve
    have hll:=aaU i
    have afT:=((V5.keep (nS _) (hkp W cW)).keep (nS _) n2.keep).keep (nS _) n214.keep
    have afU:=(aaW.keep (nY _) n2.keep).keep (nY _) n214.keep
    have afV:=Y3.keep (nY _) n214.keep
    have oT3:=(oTr.keep (nS _) n2.keep).keep (nS _) n214.keep
    have b7y:=b7x.chg n214 fun e=>e
    (repeat' (first|refine aa1 ?_|refine af ?_|refine ah ?_|refine au ?_|refine ak ?_|refine Wc.block ?_))
    refine aP (σ:=Nat) (fun m=>[(3,pT xb),(4,pT b8),(6,.slice la g.tree.length lc),(8,.slice (some ⟨tg,0,none⟩) g.tree.length tcp),(13,vi i),(14,pT W2.heap.size),(15,.bool (((lwM g i).take m).all fun k=>(rowOf (nR g) (pV g).2 k).1 == 0)),(16,vi m)]) (fun m W'=>m≤(lwM g i).length∧New w14 W') (fun m=>(lwM g i).length-m) 0
     ⟨rfl,rfl,rfl,rfl,rfl,rfl,rfl,rfl,trivial⟩ ⟨Nat.zero_le _,aQ _ _⟩ ?_
    rintro m G7 w15 ⟨hm,n15⟩
    simp only [oU]
    have aaY:=afU.keep (nY _) n15.keep
    have xN:=b14.chg n15 fun e=>e
    (repeat' (first|refine aa0 ?_|refine au ?_|refine ak ?_))
    refine aU aaY rfl rfl (by omega) (by rw [Int.toNat_natCast];exact hv) fun b o cs hl hR hat=>?_
    obtain rfl:cs=[Value.slice va (lwM g i).length vc]:=hR
    refine ay (u:=.slice va (lwM g i).length vc) rfl (hat.get 0 rfl) ?_
    clear hat
    (repeat' (first|refine af ?_|refine pz ?_|refine ah ?_|refine au ?_|refine Wc.block ?_|refine Wc.skip ?_|refine aJ ?_|refine aK ?_|refine aI ?_|refine aO ?_|refine aa3 ?_|refine aa4 ?_|refine oZ (fun _=>?_) (fun _=>?_)))
    ·obtain ⟨mm,hmm⟩:=nV (lwM g i) (k:=m) (by omega)
     have hmn:=vJ hok i hin mm (BI hin mm (List.mem_of_getElem? hmm))
     have gm:=hrows mm hmn
     have hs:((lwM g i).take (m+1)).all (fun k=>(rowOf (nR g) (pV g).2 k).1 == 0)=(((lwM g i).take m).all (fun k=>(rowOf (nR g) (pV g).2 k).1 == 0)&&((rowOf (nR g) (pV g).2 mm).1 == 0)):=by rw [take_snoc hmm,List.all_append];simp
     have fin: ∀w',New w15 w'→m+1≤(lwM g i).length∧New w14 w':=fun w' n=>⟨by omega,New.trans n15 n⟩
     refine eG rfl (by kernel_rfl) ?_
     cases hA:((lwM g i).take m).all (fun k=>(rowOf (nR g) (pV g).2 k).1 == 0) with
     |false=>
      rw [hA,Bool.false_and] at hs
      (repeat' (first|refine aa9 ?_|refine dI (by conv=>{lhs;whnf}) ?_|refine ax ?_|refine dN rfl rfl ?_|refine uY ?_))
      intro w16 n16
      (repeat' (first|refine aa0 ?_|refine aa1 ?_|refine af ?_|refine ah ?_|refine ak ?_|refine aH ?_|refine aa7 ?_))
      exact aG (m+1) ⟨rfl,rfl,rfl,rfl,rfl,rfl,by rw [hs];rfl,rfl,trivial⟩ (fin w16 n16) (by omega)
     |true=>
      rw [hA,Bool.true_and] at hs
      (repeat' (first|refine aa9 ?_|refine qE ?_|refine aa8 ?_))
      refine aC (u:=.slice p1 g.tree.length q1) rfl (fun w' hw=>(b7y.chg (New.trans n15 hw) fun e=>e).cell (o:=0) rfl) ?_
      (repeat' (first|refine aa9 ?_|refine qE ?_))
      refine cO aaY (fun w' hw=>hw.keep) rfl rfl (by omega) (by rw [Int.toNat_natCast];exact hv) fun b o cs hl hR hat=>?_
      obtain rfl:cs=[Value.slice va (lwM g i).length vc]:=hR
      (repeat' (refine qE ?_))
      refine aC (u:=.slice va (lwM g i).length vc) rfl (fun w' hw=>(hat w' hw).get 0 rfl) ?_
      clear hat
      (repeat' (first|refine aa9 ?_|refine qE ?_))
      refine dm (afT.keep (nS _) n15.keep) (fun w' hw=>hw.keep) rfl rfl (by omega) (by rw [Int.toNat_natCast];exact hmm) fun b o hcell=>?_
      (repeat' (refine qE ?_))
      refine aC (u:=vi mm) rfl hcell ?_
      (repeat' (refine qE ?_))
      refine cO (afV.keep (nY _) n15.keep) (fun w' hw=>hw.keep) rfl rfl (by omega) (by rw [Int.toNat_natCast];exact gm) fun b o cs hl hR hat=>?_
      obtain rfl:cs=rwC _:=hR
      (repeat' (first|refine qE ?_|refine aa8 ?_))
      refine aC (u:=.int .u8 (rowOf (nR g) (pV g).2 mm).1) rfl (fun w' hw=>(hat w' hw).get 0 rfl) ?_
      clear hat
      by_cases e:(rowOf (nR g) (pV g).2 mm).1=0
      ·rw [e,show ((0:Nat) == 0)=true by decide] at hs
       rw [e]
       (repeat' (first|refine dI (by conv=>{lhs;whnf}) ?_|refine ax ?_|refine qE ?_|refine xh ?_|(refine cZ rfl rfl (fun _=>?_) (fun _=>?_)<;>(first|(exfalso;omega)|skip))))
       intro w16 n16
       (repeat' (first|refine aa0 ?_|refine aa1 ?_|refine af ?_|refine ah ?_|refine ak ?_|refine aH ?_|refine aa7 ?_))
       exact aG (m+1) ⟨rfl,rfl,rfl,rfl,rfl,rfl,by rw [hs];rfl,rfl,trivial⟩ (fin w16 n16) (by omega)
      ·rw [show ((rowOf (nR g) (pV g).2 mm).1 == 0)=false by simpa using e] at hs
       (repeat' (first|refine dI (by conv=>{lhs;whnf}) ?_|refine ax ?_|refine qE ?_|refine xh ?_|(refine cZ rfl rfl (fun _=>?_) (fun _=>?_)<;>(first|(exfalso;omega)|skip))))
       intro w16 n16
       (repeat' (first|refine aa0 ?_|refine aa1 ?_|refine af ?_|refine ah ?_|refine ak ?_|refine aH ?_|refine aa7 ?_))
       exact aG (m+1) ⟨rfl,rfl,rfl,rfl,rfl,rfl,by rw [hs];rfl,rfl,trivial⟩ (fin w16 n16) (by omega)
    ·obtain rfl:m=(lwM g i).length:=by omega
     have htk:=Lj (T:=F) hin
     have oT5:=oT3.keep (nS _) n15.keep
     have hfree:((lwM g i).take (lwM g i).length).all (fun k=>(rowOf (nR g) (pV g).2 k).1 == 0)=true↔ ∀k∈lwM g i,(rowOf (nR g) (pV g).2 k).1=0:=by
      rw [List.take_length,List.all_eq_true]
      exact ⟨fun h k hk=>by simpa using h k hk,fun h k hk=>by simpa using h k hk⟩
     generalize ((lwM g i).take (lwM g i).length).all (fun k=>(rowOf (nR g) (pV g).2 k).1 == 0)=fr at*
     clear g1
     generalize hxr:rowOf (nR g) (pV g).2 i=xr at*
     obtain ⟨x1,x2,x3⟩:=xr
     dsimp only at hq1 hq2 hq3 xN
     refine eG rfl (by kernel_rfl) ?_
     by_cases h0:x1=0
     ·obtain rfl:fr=true:=hfree.2 (hq2 (.inl h0))
      rw [if_pos (hq1.1 (.inl h0))] at htk
      subst h0
      (repeat' (refine aa8 ?_))
      refine aC (u:=.int .u8 (0:Nat)) rfl (fun w' hw=>(xN.chg hw fun e=>e).cell (o:=0) rfl) ?_
      (repeat' (first|refine aa9 ?_|refine dN rfl rfl ?_|refine xh ?_|(refine cZ rfl rfl (fun _=>?_) (fun _=>?_)<;>(first|(exfalso;omega)|skip))))
      refine dm oT5 (fun w' hw=>hw.keep) rfl rfl (by omega) (by rw [Int.toNat_natCast];exact htk) fun b o hcell=>?_
      skip
      refine aC (u:=vi (1:Nat)) rfl hcell ?_
      (repeat' (refine cZ rfl rfl (fun _=>?_) (fun _=>?_)<;>(first|(exfalso;omega)|skip)))
      refine iL rfl rfl ?_
      (repeat' (first|refine aa9 ?_|refine qE ?_|refine aa8 ?_))
      refine aC (u:=.int .u8 (0:Nat)) rfl (fun w' hw=>(xN.chg hw fun e=>e).cell (o:=0) rfl) ?_
      (repeat' (first|refine aa9 ?_|refine qE ?_|refine dN rfl rfl ?_|refine xh ?_|refine uY ?_|refine dP rfl ?_|refine aa8 ?_|(refine cZ rfl rfl (fun _=>?_) (fun _=>?_)<;>(first|(exfalso;omega)|skip))))
      refine aC (u:=.int .u8 (0:Nat)) rfl (fun w' hw=>(xN.chg hw fun e=>e).cell (o:=0) rfl) ?_
      (repeat' (first|refine aa9 ?_|refine ax ?_|refine qE ?_|refine dN rfl rfl ?_|refine uY ?_|(refine cZ rfl rfl (fun _=>?_) (fun _=>?_)<;>(first|(exfalso;omega)|skip))))
      intro w16 n16
      have NZ:=xN.chg n16 fun e=>e
      (repeat' (first|refine ah ?_|refine au ?_|refine ak ?_|refine Wc.skip ?_|refine aa4 ?_|refine aa5 ?_))
      refine ay (u:=.int .u8 (0:Nat)) rfl (NZ.cell (o:=0) rfl) ?_
      (repeat' (first|refine aa0 ?_|refine aa1 ?_|refine af ?_|refine qi ?_|refine pI ?_|refine ah ?_|refine ak ?_|refine Wc.skip ?_|refine aH ?_|refine aa4 ?_|refine aa7 ?_|(refine bJ rfl rfl (fun _=>?_) (fun _=>?_)<;>(first|(exfalso;omega)|skip))))
      exact aG (i+1) ⟨rfl,rfl,rfl,rfl,rfl,trivial⟩ ⟨by omega,New.trans n2 (New.trans n214 (New.trans n15 n16))⟩ (by omega)
     ·by_cases h7:x1=7
      ·obtain rfl:fr=true:=hfree.2 (hq2 (.inr h7))
       rw [if_pos (hq1.1 (.inr h7))] at htk
       subst h7
       (repeat' (refine aa8 ?_))
       refine aC (u:=.int .u8 (7:Nat)) rfl (fun w' hw=>(xN.chg hw fun e=>e).cell (o:=0) rfl) ?_
       (repeat' (first|refine aa9 ?_|refine qE ?_|refine aa8 ?_|(refine cZ rfl rfl (fun _=>?_) (fun _=>?_)<;>(first|(exfalso;omega)|skip))))
       refine aC (u:=.int .u8 (7:Nat)) rfl (fun w' hw=>(xN.chg hw fun e=>e).cell (o:=0) rfl) ?_
       (repeat' (first|refine aa9 ?_|refine qE ?_|refine uY ?_|(refine cZ rfl rfl (fun _=>?_) (fun _=>?_)<;>(first|(exfalso;omega)|skip))))
       refine dm oT5 (fun w' hw=>hw.keep) rfl rfl (by omega) (by rw [Int.toNat_natCast];exact htk) fun b o hcell=>?_
       skip
       refine aC (u:=vi (1:Nat)) rfl hcell ?_
       (repeat' (refine cZ rfl rfl (fun _=>?_) (fun _=>?_)<;>(first|(exfalso;omega)|skip)))
       refine iL rfl rfl ?_
       (repeat' (first|refine aa9 ?_|refine qE ?_|refine aa8 ?_))
       refine aC (u:=.int .u8 (7:Nat)) rfl (fun w' hw=>(xN.chg hw fun e=>e).cell (o:=0) rfl) ?_
       (repeat' (first|refine aa9 ?_|refine qE ?_|refine aa8 ?_|(refine cZ rfl rfl (fun _=>?_) (fun _=>?_)<;>(first|(exfalso;omega)|skip))))
       refine aC (u:=.int .u8 (7:Nat)) rfl (fun w' hw=>(xN.chg hw fun e=>e).cell (o:=0) rfl) ?_
       (repeat' (first|refine aa9 ?_|refine qE ?_|refine xh ?_|refine uY ?_|refine dP rfl ?_|refine aa8 ?_|(refine cZ rfl rfl (fun _=>?_) (fun _=>?_)<;>(first|(exfalso;omega)|skip))))
       refine aC (u:=.int .u8 (7:Nat)) rfl (fun w' hw=>(xN.chg hw fun e=>e).cell (o:=0) rfl) ?_
       (repeat' (first|refine aa9 ?_|refine ax ?_|refine qE ?_|refine dN rfl rfl ?_|refine uY ?_|(refine cZ rfl rfl (fun _=>?_) (fun _=>?_)<;>(first|(exfalso;omega)|skip))))
       intro w16 n16
       have NZ:=xN.chg n16 fun e=>e
       (repeat' (first|refine ah ?_|refine au ?_|refine ak ?_|refine Wc.skip ?_|refine aa4 ?_|refine aa5 ?_))
       refine ay (u:=.int .u8 (7:Nat)) rfl (NZ.cell (o:=0) rfl) ?_
       (repeat' (first|refine aa0 ?_|refine aa1 ?_|refine af ?_|refine qi ?_|refine pI ?_|refine ah ?_|refine ak ?_|refine Wc.skip ?_|refine aH ?_|refine aa4 ?_|refine aa7 ?_|(refine bJ rfl rfl (fun _=>?_) (fun _=>?_)<;>(first|(exfalso;omega)|skip))))
       exact aG (i+1) ⟨rfl,rfl,rfl,rfl,rfl,trivial⟩ ⟨by omega,New.trans n2 (New.trans n214 (New.trans n15 n16))⟩ (by omega)
      ·rw [if_neg (fun e=>(hq1.2 e).elim h0 h7)] at htk
       by_cases h8:x1=8
       ·obtain rfl:fr=false:=by
         obtain ⟨k,hk,hk0⟩:=hq3 h8
         cases fr with
         |false=>rfl
         |true=>exact absurd (hfree.1 rfl k hk) hk0
        subst h8
        (repeat' (refine aa8 ?_))
        refine aC (u:=.int .u8 (8:Nat)) rfl (fun w' hw=>(xN.chg hw fun e=>e).cell (o:=0) rfl) ?_
        (repeat' (first|refine aa9 ?_|refine qE ?_|refine aa8 ?_|(refine cZ rfl rfl (fun _=>?_) (fun _=>?_)<;>(first|(exfalso;omega)|skip))))
        refine aC (u:=.int .u8 (8:Nat)) rfl (fun w' hw=>(xN.chg hw fun e=>e).cell (o:=0) rfl) ?_
        (repeat' (first|refine aa9 ?_|refine qE ?_|refine uY ?_|(refine cZ rfl rfl (fun _=>?_) (fun _=>?_)<;>(first|(exfalso;omega)|skip))))
        refine dm oT5 (fun w' hw=>hw.keep) rfl rfl (by omega) (by rw [Int.toNat_natCast];exact htk) fun b o hcell=>?_
        skip
        refine aC (u:=vi (0:Nat)) rfl hcell ?_
        (repeat' (refine cZ rfl rfl (fun _=>?_) (fun _=>?_)<;>(first|(exfalso;omega)|skip)))
        refine iL rfl rfl ?_
        (repeat' (first|refine aa9 ?_|refine qE ?_|refine aa8 ?_))
        refine aC (u:=.int .u8 (8:Nat)) rfl (fun w' hw=>(xN.chg hw fun e=>e).cell (o:=0) rfl) ?_
        (repeat' (first|refine aa9 ?_|refine qE ?_|refine aa8 ?_|(refine cZ rfl rfl (fun _=>?_) (fun _=>?_)<;>(first|(exfalso;omega)|skip))))
        refine aC (u:=.int .u8 (8:Nat)) rfl (fun w' hw=>(xN.chg hw fun e=>e).cell (o:=0) rfl) ?_
        (repeat' (first|refine aa9 ?_|refine qE ?_|refine dN rfl rfl ?_|refine uY ?_|refine aa8 ?_|(refine cZ rfl rfl (fun _=>?_) (fun _=>?_)<;>(first|(exfalso;omega)|skip))))
        refine aC (u:=.int .u8 (8:Nat)) rfl (fun w' hw=>(xN.chg hw fun e=>e).cell (o:=0) rfl) ?_
        (repeat' (first|refine aa9 ?_|refine ax ?_|refine qE ?_|refine xh ?_|refine uY ?_|(refine cZ rfl rfl (fun _=>?_) (fun _=>?_)<;>(first|(exfalso;omega)|skip))))
        intro w16 n16
        have NZ:=xN.chg n16 fun e=>e
        (repeat' (first|refine ah ?_|refine au ?_|refine ak ?_|refine Wc.skip ?_|refine aa4 ?_|refine aa5 ?_))
        refine ay (u:=.int .u8 (8:Nat)) rfl (NZ.cell (o:=0) rfl) ?_
        (repeat' (first|refine aa0 ?_|refine aa6 ?_|(refine bJ rfl rfl (fun _=>?_) (fun _=>?_)<;>(first|(exfalso;omega)|skip))))
        refine bM (((b49.chg cW fun e=>by omega).chg n2 fun e=>e).chg (New.trans n214 (New.trans n15 n16)) fun e=>e) rfl rfl ?_
        (repeat' (refine aa6 ?_))
        refine bM (((b79.chg cW fun e=>by omega).chg n2 fun e=>e).chg (New.trans n214 (New.trans n15 n16)) fun e=>e) rfl rfl ?_
        (repeat' (first|refine aa0 ?_|refine aa6 ?_|refine aa5 ?_))
        refine ay (u:=vi x3) rfl (NZ.cell (o:=2) rfl) ?_
        (repeat' (refine aa6 ?_))
        refine aB (Jc (i:=i) (((rxx.keep (hkp W cW) pW).keep n2.keep pW).keep (New.trans n214 (New.trans n15 n16)).keep pW) sh he hin (by rw [hxr]) (by rw [hxr]) ((Y3.keep (nY _) n214.keep).keep (nY _) (New.trans n15 n16).keep) ⟨_,_,_,rfl⟩ ⟨_,_,_,rfl⟩ ⟨_,_,_,rfl⟩) rfl ?_
        rintro _ w17 ⟨rfl,n17⟩
        (repeat' (first|refine aa0 ?_|refine aa1 ?_|refine af ?_|refine aa6 ?_|refine pU ?_|refine aV rfl ?_|refine ah ?_|refine ak ?_|refine Wc.skip ?_|refine aH ?_|refine aa4 ?_|refine aa7 ?_))
        exact aG (i+1) ⟨rfl,rfl,rfl,rfl,rfl,trivial⟩ ⟨by omega,New.trans n2 (New.trans n214 (New.trans n15 (New.trans n16 n17)))⟩ (by omega)
       ·(repeat' (refine aa8 ?_))
        refine aC (u:=.int .u8 (x1:Nat)) rfl (fun w' hw=>(xN.chg hw fun e=>e).cell (o:=0) rfl) ?_
        (repeat' (first|refine aa9 ?_|refine qE ?_|refine aa8 ?_|(refine cZ rfl rfl (fun _=>?_) (fun _=>?_)<;>(first|(exfalso;omega)|skip))))
        refine aC (u:=.int .u8 (x1:Nat)) rfl (fun w' hw=>(xN.chg hw fun e=>e).cell (o:=0) rfl) ?_
        (repeat' (first|refine aa9 ?_|refine qE ?_|refine uY ?_|(refine cZ rfl rfl (fun _=>?_) (fun _=>?_)<;>(first|(exfalso;omega)|skip))))
        refine dm oT5 (fun w' hw=>hw.keep) rfl rfl (by omega) (by rw [Int.toNat_natCast];exact htk) fun b o hcell=>?_
        skip
        refine aC (u:=vi (0:Nat)) rfl hcell ?_
        (repeat' (refine cZ rfl rfl (fun _=>?_) (fun _=>?_)<;>(first|(exfalso;omega)|skip)))
        refine iL rfl rfl ?_
        (repeat' (first|refine aa9 ?_|refine qE ?_|refine aa8 ?_))
        refine aC (u:=.int .u8 (x1:Nat)) rfl (fun w' hw=>(xN.chg hw fun e=>e).cell (o:=0) rfl) ?_
        (repeat' (first|refine aa9 ?_|refine qE ?_|refine aa8 ?_|(refine cZ rfl rfl (fun _=>?_) (fun _=>?_)<;>(first|(exfalso;omega)|skip))))
        refine aC (u:=.int .u8 (x1:Nat)) rfl (fun w' hw=>(xN.chg hw fun e=>e).cell (o:=0) rfl) ?_
        (repeat' (first|refine aa9 ?_|refine qE ?_|refine dN rfl rfl ?_|refine uY ?_|refine aa8 ?_|(refine cZ rfl rfl (fun _=>?_) (fun _=>?_)<;>(first|(exfalso;omega)|skip))))
        refine aC (u:=.int .u8 (x1:Nat)) rfl (fun w' hw=>(xN.chg hw fun e=>e).cell (o:=0) rfl) ?_
        (repeat' (first|refine aa9 ?_|refine ax ?_|refine qE ?_|refine dN rfl rfl ?_|refine uY ?_|(refine cZ rfl rfl (fun _=>?_) (fun _=>?_)<;>(first|(exfalso;omega)|skip))))
        intro w16 n16
        have NZ:=xN.chg n16 fun e=>e
        (repeat' (first|refine ah ?_|refine au ?_|refine ak ?_|refine Wc.skip ?_|refine aa4 ?_|refine aa5 ?_))
        refine ay (u:=.int .u8 (x1:Nat)) rfl (NZ.cell (o:=0) rfl) ?_
        (repeat' (first|refine aa0 ?_|refine aa1 ?_|refine af ?_|refine qi ?_|refine pI ?_|refine ah ?_|refine ak ?_|refine Wc.skip ?_|refine aH ?_|refine aa4 ?_|refine aa7 ?_|(refine bJ rfl rfl (fun _=>?_) (fun _=>?_)<;>(first|(exfalso;omega)|skip))))
        exact aG (i+1) ⟨rfl,rfl,rfl,rfl,rfl,trivial⟩ ⟨by omega,New.trans n2 (New.trans n214 (New.trans n15 n16))⟩ (by omega)
   ·refine aB IG rfl ?_
    rintro _ w40 ⟨rfl,n40⟩
    (repeat' (first|refine aa1 ?_|refine af ?_|refine ah ?_|refine aA ?_))
    exact aF rfl rfl ⟨_,rfl,rfl,(Chg.trans (M:=fun k=>k=tg) n09.any (Chg.trans cW (New.trans n2 n40).any fun _ _ e=>e) fun k _ e=>e).toNew fun k hk e=>by omega⟩
 ·have hl:=hl0 he
  subst hl
  generalize ql g=ne at*
  (repeat' (first|refine aa0 ?_|refine aa1 ?_|refine af ?_|refine ah ?_|refine au ?_|refine ak ?_|refine aa3 ?_|refine aa5 ?_|(refine qf (fun _=>?_) (fun _=>?_)<;>(first|(exfalso;omega)|skip))))
  refine ay (u:=.slice p1 0 q1) rfl (b7.cell (o:=0) rfl) ?_
  (repeat' (first|refine aa0 ?_|refine aa6 ?_|refine pz ?_|(refine bJ rfl rfl (fun _=>?_) (fun _=>?_)<;>(first|(exfalso;omega)|skip))))
  refine aB IG rfl ?_
  rintro _ w20 ⟨rfl,n20⟩
  (repeat' (first|refine aa1 ?_|refine af ?_|refine pU ?_|refine ah ?_|refine aA ?_|refine aN ?_))
  exact aF rfl rfl ⟨_,rfl,rfl,New.trans n07 n20⟩
end
end Go.Proofs.YtjecgaiaiophpaaGreatDoor
namespace Go.Proofs.YtjecgaiaiophpaaGreatDoor
open Go Wk
theorem V6 {H:Type} (d:DataW H):1≤Rows.uptoBulk d:=by
 cases d with
 |lit l=>cases l<;>simp [Rows.uptoBulk]
 |_=>simp [Rows.uptoBulk]
theorem V7 {H:Type} (l:List (DataW H)):l.length≤Rows.uptoBulkAll l:=by
 induction l with
 |nil=>simp [Rows.uptoBulkAll]
 |cons x r ih=>have:=V6 x;simp only [Rows.uptoBulkAll,List.length_cons];omega
theorem BJ {α:Type} {D:Dat α} {H:Type} {xs:List α} {d:DataW H} (h:xR D H xs d):xs.length≤Rows.uptoBulk d:=by
 rcases h with ⟨rfl,rfl⟩|⟨es,sp,rfl,hl,_⟩
 ·simp
 ·have:=V7 es
  simp only [Rows.uptoBulk]
  omega
theorem N7 {α:Type} {D:Dat α} {H:Type} (μ:α→Nat) (hμ: ∀x d,D H x d→μ x≤Rows.uptoBulk d): ∀(xs:List α) (es:List (DataW H)),es.length=xs.length→(∀(i:Nat) (x:α),xs[i]? =some x→ ∃y,es[i]? =some y∧D H x y)→(xs.map μ).sum≤Rows.uptoBulkAll es
 | [],es,_,_=>by simp
 |x::xs,[],h,_=>by simp at h
 |x::xs,e::es,h,hd=>by
  obtain ⟨y,hy,hD⟩:=hd 0 x rfl
  simp at hy
  subst hy
  have ih:=N7 μ hμ xs es (by simpa using h) (fun i x hx=>by
   obtain ⟨y,hy,hD⟩:=hd (i+1) x (by simpa using hx)
   exact ⟨y,by simpa using hy,hD⟩)
  have:=hμ x e hD
  simp only [List.map_cons,List.sum_cons,Rows.uptoBulkAll]
  omega
theorem P9 {α:Type} {D:Dat α} {H:Type} {xs:List α} {d:DataW H} (μ:α→Nat) (hμ: ∀x d,D H x d→μ x≤Rows.uptoBulk d) (h:xR D H xs d):(xs.map μ).sum≤Rows.uptoBulk d:=by
 rcases h with ⟨rfl,rfl⟩|⟨es,sp,rfl,hl,hd⟩
 ·simp
 ·have:=N7 μ hμ xs es hl hd
  simp only [Rows.uptoBulk]
  omega
theorem N8 {H:Type} (l:List UInt8) (d:DataW H) (h:wE H l d):l.length+1≤Rows.uptoBulk d:=by
 obtain ⟨rfl,_⟩:=h
 simp [Rows.uptoBulk]
end Go.Proofs.YtjecgaiaiophpaaGreatDoor
namespace Go.Proofs.YtjecgaiaiophpaaGreatDoor
open Go Wk Go.ChangeShapes
theorem afW:Tryz.prog.cellsOf 3=1:=by kernel_rfl
theorem cU8:Tryz.prog.cellsOf 5=1:=by kernel_rfl
theorem cI8:Tryz.prog.cellsOf 66=1:=by kernel_rfl
theorem afX:Tryz.prog.cellsOf 67=1:=by kernel_rfl
theorem cStr:Tryz.prog.cellsOf 9=1:=by kernel_rfl
theorem afY:Tryz.prog.cellsOf 49=1:=by kernel_rfl
theorem afZ:Tryz.prog.cellsOf 22=1:=by kernel_rfl
theorem af0:Tryz.prog.cellsOf 23=1:=by kernel_rfl
theorem V8:Tryz.prog.cellsOf 24=1:=by kernel_rfl
theorem cPr:Tryz.prog.cellsOf 99=2:=by kernel_rfl
theorem cNd:Tryz.prog.cellsOf 51=3:=by kernel_rfl
theorem cCd:Tryz.prog.cellsOf 69=7:=by kernel_rfl
theorem cGv:Tryz.prog.cellsOf 26=4:=by kernel_rfl
theorem aaZ {α:Type} {l:List α} (h:l.length=2): ∃a b,l=[a,b]:=by
 match l,h with
 | [a,b],_=>exact ⟨a,b,rfl⟩
theorem abb {α:Type} {l:List α} (h:l.length=3): ∃a b c,l=[a,b,c]:=by
 match l,h with
 | [a,b,c],_=>exact ⟨a,b,c,rfl⟩
theorem abd {α:Type} {l:List α} (h:l.length=4): ∃a b c d,l=[a,b,c,d]:=by
 match l,h with
 | [a,b,c,d],_=>exact ⟨a,b,c,d,rfl⟩
theorem abe {α:Type} {l:List α} (h:l.length=7): ∃a b c d e f g,l=[a,b,c,d,e,f,g]:=by
 match l,h with
 | [a,b,c,d,e,f,g],_=>exact ⟨a,b,c,d,e,f,g,rfl⟩
def V9:Dat Pr:=fun H x d=> ∃d0 d1,d=.agg [d0,d1]∧wE H x.1 d0∧wE H x.2 d1
def Wh:Dat Nd:=fun H x d=> ∃d0 d1 d2,d=.agg [d0,d1,d2]∧Gw .i64 H x.parent d0∧wE H x.name d1∧xR V9 H x.oH d2
def Wi:Dat Cd:=fun H x d=> ∃d0 d1 d2 d3 d4 d5 d6,d=.agg [d0,d1,d2,d3,d4,d5,d6]∧wE H x.name d0∧wE H x.family d1∧Gw .u8 H x.level d2∧xR wE H x.compat d3∧Gw .i8 H x.score d4∧wE H x.ve d5∧Gw .i16 H x.entry d6
def X3:Dat Giv:=fun H x d=> ∃d0 d1 d2 d3,d=.agg [d0,d1,d2,d3]∧xR Wh H x.tree d0∧xR Wi H x.cards d1∧xR wE H x.fails d2∧xR wE H x.gone d3
def rGv:Rel Giv:=fun Pb w g cs=> ∃tv cv fv gv,cs=[tv,cv,fv,gv]∧RdG Pb w g tv cv fv gv
theorem Wj:Opens Tryz.prog 99 rPr V9:=by
 intro H enc w fuel cs d ps h
 obtain ⟨xs,n,rfl,hx,hl,hlen,hf⟩:=DataW.trod_struct Tryz.underlying99 h
 rw [cPr] at hl
 obtain ⟨c0,c1,rfl⟩:=aaZ hl
 obtain ⟨y0,y1,rfl⟩:=aaZ (show xs.length=2 from hlen)
 have e0:DataW.trod enc Tryz.prog w 0 (fun _=>true) true n 9 (([c0,c1].drop 0).take (Tryz.prog.cellsOf 9))=some y0:=hf 0 _ rfl
 rw [cStr] at e0
 have e1:DataW.trod enc Tryz.prog w 0 (fun _=>true) true n 9 (([c0,c1].drop 1).take (Tryz.prog.cellsOf 9))=some y1:=hf 1 _ rfl
 rw [cStr] at e1
 cases hx
 obtain ⟨s0,r0,q0⟩:=vC Tryz.underlying9 H enc w n _ _ _ e0
 obtain ⟨s1,r1,q1⟩:=vC Tryz.underlying9 H enc w n _ _ _ e1
 have r0':[c0]=[vs s0]:=r0 (fun _=>True) (fun _ _=>trivial)
 have r1':[c1]=[vs s1]:=r1 (fun _=>True) (fun _ _=>trivial)
 cases r0'
 cases r1'
 exact ⟨(s0,s1),fun _ _=>rfl,_,_,rfl,q0,q1⟩
theorem TN:Opens Tryz.prog 49 (rSl rPr 2) (xR V9):=xU Tryz.underlying49 cPr (by decide) Wj
theorem Wp:Opens Tryz.prog 51 rNd Wh:=by
 intro H enc w fuel cs d ps h
 obtain ⟨xs,n,rfl,hx,hl,hlen,hf⟩:=DataW.trod_struct Tryz.underlying51 h
 rw [cNd] at hl
 obtain ⟨c0,c1,c2,rfl⟩:=abb hl
 obtain ⟨y0,y1,y2,rfl⟩:=abb (show xs.length=3 from hlen)
 have e0:DataW.trod enc Tryz.prog w 0 (fun _=>true) true n 3 (([c0,c1,c2].drop 0).take (Tryz.prog.cellsOf 3))=some y0:=hf 0 _ rfl
 rw [afW] at e0
 have e1:DataW.trod enc Tryz.prog w 0 (fun _=>true) true n 9 (([c0,c1,c2].drop 1).take (Tryz.prog.cellsOf 9))=some y1:=hf 1 _ rfl
 rw [cStr] at e1
 have e2:DataW.trod enc Tryz.prog w 0 (fun _=>true) true n 49 (([c0,c1,c2].drop 2).take (Tryz.prog.cellsOf 49))=some y2:=hf 2 _ rfl
 rw [afY] at e2
 cases hx
 obtain ⟨s0,r0,q0⟩:=Bl Tryz.underlying3 H enc w n _ _ _ e0
 obtain ⟨s1,r1,q1⟩:=vC Tryz.underlying9 H enc w n _ _ _ e1
 obtain ⟨s2,r2,q2⟩:=TN H enc w n _ _ _ e2
 have r0':[c0]=[vi s0]:=r0 (fun _=>True) (fun _ _=>trivial)
 have r1':[c1]=[vs s1]:=r1 (fun _=>True) (fun _ _=>trivial)
 cases r0'
 cases r1'
 refine ⟨⟨s0,s1,s2⟩,fun Pb hP=>?_,_,_,_,rfl,q0,q1,q2⟩
 obtain ⟨v,hv,hr⟩:=r2 Pb fun p hp=>hP p (by simp;exact .inr (.inr hp))
 have hv':[c2]=[v]:=hv
 cases hv'
 exact ⟨c2,rfl,hr⟩
theorem TP:Opens Tryz.prog 22 (rSl rNd 3) (xR Wh):=xU Tryz.underlying22 cNd (by decide) Wp
theorem Dq:Opens Tryz.prog 24 (rSl (Wk.one vs) 1) (xR wE):=xU Tryz.underlying24 cStr (by decide) (vC Tryz.underlying9)
theorem Ws:Opens Tryz.prog 69 rCd Wi:=by
 intro H enc w fuel cs d ps h
 obtain ⟨xs,n,rfl,hx,hl,hlen,hf⟩:=DataW.trod_struct Tryz.underlying69 h
 rw [cCd] at hl
 obtain ⟨c0,c1,c2,c3,c4,c5,c6,rfl⟩:=abe hl
 obtain ⟨y0,y1,y2,y3,y4,y5,y6,rfl⟩:=abe (show xs.length=7 from hlen)
 have e0:DataW.trod enc Tryz.prog w 0 (fun _=>true) true n 9 (([c0,c1,c2,c3,c4,c5,c6].drop 0).take (Tryz.prog.cellsOf 9))=some y0:=hf 0 _ rfl
 rw [cStr] at e0
 have e1:DataW.trod enc Tryz.prog w 0 (fun _=>true) true n 9 (([c0,c1,c2,c3,c4,c5,c6].drop 1).take (Tryz.prog.cellsOf 9))=some y1:=hf 1 _ rfl
 rw [cStr] at e1
 have e2:DataW.trod enc Tryz.prog w 0 (fun _=>true) true n 5 (([c0,c1,c2,c3,c4,c5,c6].drop 2).take (Tryz.prog.cellsOf 5))=some y2:=hf 2 _ rfl
 rw [cU8] at e2
 have e3:DataW.trod enc Tryz.prog w 0 (fun _=>true) true n 24 (([c0,c1,c2,c3,c4,c5,c6].drop 3).take (Tryz.prog.cellsOf 24))=some y3:=hf 3 _ rfl
 rw [V8] at e3
 have e4:DataW.trod enc Tryz.prog w 0 (fun _=>true) true n 66 (([c0,c1,c2,c3,c4,c5,c6].drop 4).take (Tryz.prog.cellsOf 66))=some y4:=hf 4 _ rfl
 rw [cI8] at e4
 have e5:DataW.trod enc Tryz.prog w 0 (fun _=>true) true n 9 (([c0,c1,c2,c3,c4,c5,c6].drop 5).take (Tryz.prog.cellsOf 9))=some y5:=hf 5 _ rfl
 rw [cStr] at e5
 have e6:DataW.trod enc Tryz.prog w 0 (fun _=>true) true n 67 (([c0,c1,c2,c3,c4,c5,c6].drop 6).take (Tryz.prog.cellsOf 67))=some y6:=hf 6 _ rfl
 rw [afX] at e6
 cases hx
 obtain ⟨s0,r0,q0⟩:=vC Tryz.underlying9 H enc w n _ _ _ e0
 obtain ⟨s1,r1,q1⟩:=vC Tryz.underlying9 H enc w n _ _ _ e1
 obtain ⟨s2,r2,q2⟩:=Bl Tryz.underlying5 H enc w n _ _ _ e2
 obtain ⟨s3,r3,q3⟩:=Dq H enc w n _ _ _ e3
 obtain ⟨s4,r4,q4⟩:=Bl Tryz.underlying66 H enc w n _ _ _ e4
 obtain ⟨s5,r5,q5⟩:=vC Tryz.underlying9 H enc w n _ _ _ e5
 obtain ⟨s6,r6,q6⟩:=Bl Tryz.underlying67 H enc w n _ _ _ e6
 have r0':[c0]=[vs s0]:=r0 (fun _=>True) (fun _ _=>trivial)
 have r1':[c1]=[vs s1]:=r1 (fun _=>True) (fun _ _=>trivial)
 have r2':[c2]=[.int .u8 s2]:=r2 (fun _=>True) (fun _ _=>trivial)
 have r4':[c4]=[.int .i8 s4]:=r4 (fun _=>True) (fun _ _=>trivial)
 have r5':[c5]=[vs s5]:=r5 (fun _=>True) (fun _ _=>trivial)
 have r6':[c6]=[.int .i16 s6]:=r6 (fun _=>True) (fun _ _=>trivial)
 cases r0'
 cases r1'
 cases r2'
 cases r4'
 cases r5'
 cases r6'
 refine ⟨⟨s0,s1,s2,s3,s4,s5,s6⟩,fun Pb hP=>?_,_,_,_,_,_,_,_,rfl,q0,q1,q2,q3,q4,q5,q6⟩
 obtain ⟨v,hv,hr⟩:=r3 Pb fun p hp=>hP p (by simp;exact .inr (.inr (.inr (.inl hp))))
 have hv':[c3]=[v]:=hv
 cases hv'
 exact ⟨c3,rfl,hr⟩
theorem TQ:Opens Tryz.prog 23 (rSl rCd 7) (xR Wi):=xU Tryz.underlying23 cCd (by decide) Ws
theorem Wv:Opens Tryz.prog 26 rGv X3:=by
 intro H enc w fuel cs d ps h
 obtain ⟨xs,n,rfl,hx,hl,hlen,hf⟩:=DataW.trod_struct Tryz.underlying26 h
 rw [cGv] at hl
 obtain ⟨c0,c1,c2,c3,rfl⟩:=abd hl
 obtain ⟨y0,y1,y2,y3,rfl⟩:=abd (show xs.length=4 from hlen)
 have e0:DataW.trod enc Tryz.prog w 0 (fun _=>true) true n 22 (([c0,c1,c2,c3].drop 0).take (Tryz.prog.cellsOf 22))=some y0:=hf 0 _ rfl
 rw [afZ] at e0
 have e1:DataW.trod enc Tryz.prog w 0 (fun _=>true) true n 23 (([c0,c1,c2,c3].drop 1).take (Tryz.prog.cellsOf 23))=some y1:=hf 1 _ rfl
 rw [af0] at e1
 have e2:DataW.trod enc Tryz.prog w 0 (fun _=>true) true n 24 (([c0,c1,c2,c3].drop 2).take (Tryz.prog.cellsOf 24))=some y2:=hf 2 _ rfl
 rw [V8] at e2
 have e3:DataW.trod enc Tryz.prog w 0 (fun _=>true) true n 24 (([c0,c1,c2,c3].drop 3).take (Tryz.prog.cellsOf 24))=some y3:=hf 3 _ rfl
 rw [V8] at e3
 cases hx
 obtain ⟨s0,r0,q0⟩:=TP H enc w n _ _ _ e0
 obtain ⟨s1,r1,q1⟩:=TQ H enc w n _ _ _ e1
 obtain ⟨s2,r2,q2⟩:=Dq H enc w n _ _ _ e2
 obtain ⟨s3,r3,q3⟩:=Dq H enc w n _ _ _ e3
 refine ⟨⟨s0,s1,s2,s3⟩,fun Pb hP=>?_,_,_,_,_,rfl,q0,q1,q2,q3⟩
 obtain ⟨v0,hv0,hr0⟩:=r0 Pb fun p hp=>hP p (by simp;exact .inl hp)
 obtain ⟨v1,hv1,hr1⟩:=r1 Pb fun p hp=>hP p (by simp;exact .inr (.inl hp))
 obtain ⟨v2,hv2,hr2⟩:=r2 Pb fun p hp=>hP p (by simp;exact .inr (.inr (.inl hp)))
 obtain ⟨v3,hv3,hr3⟩:=r3 Pb fun p hp=>hP p (by simp;exact .inr (.inr (.inr hp)))
 have h0:[c0]=[v0]:=hv0
 have h1:[c1]=[v1]:=hv1
 have h2:[c2]=[v2]:=hv2
 have h3:[c3]=[v3]:=hv3
 cases h0
 cases h1
 cases h2
 cases h3
 exact ⟨c0,c1,c2,c3,rfl,hr0,hr1,hr2,hr3⟩
theorem Y4 {l:List Nat} {x:Nat} (h:x∈l):x≤l.sum:=by
 induction l with
 |nil=>simp at h
 |cons y r ih=>
  simp only [List.sum_cons]
  rcases List.mem_cons.1 h with rfl|h
  ·omega
  ·have:=ih h;omega
theorem Es {α:Type} {D:Dat α} {H:Type} {xs:List α} {d:DataW H} (μ:α→Nat) (hμ: ∀x d,D H x d→μ x≤Rows.uptoBulk d) (h:xR D H xs d): ∀x∈xs,μ x≤Rows.uptoBulk d:=fun x hx=>
 Nat.le_trans (Y4 (List.mem_map.2 ⟨x,hx,rfl⟩:μ x∈xs.map μ)) (P9 μ hμ h)
theorem X4 {H:Type} {g:Giv} {d:DataW H} (h:X3 H g d) (hb:Rows.uptoBulk d≤1048576):SzG g∧NR g:=by
 obtain ⟨d0,d1,d2,d3,rfl,h0,h1,h2,h3⟩:=h
 simp only [Rows.uptoBulk,Rows.uptoBulkAll] at hb
 have a0:=BJ h0
 have a1:=BJ h1
 have a2:=BJ h2
 have a3:=BJ h3
 have b0:=Es (fun x:Nd=>x.oH.length) (fun x d ⟨e0,e1,e2,e,p0,p1,p2⟩=>by
  subst e
  have:=BJ p2
  simp only [Rows.uptoBulk,Rows.uptoBulkAll];omega) h0
 have b1:=Es (fun x:Cd=>x.compat.length) (fun x d ⟨e0,e1,e2,e3,e4,e5,e6,e,p0,p1,p2,p3,_⟩=>by
  subst e
  have:=BJ p3
  simp only [Rows.uptoBulk,Rows.uptoBulkAll];omega) h1
 have b2:=Es (fun x:List UInt8=>x.length) (fun x d p=>by have:=N8 x d p;omega) h2
 have b3:=Es (fun x:List UInt8=>x.length) (fun x d p=>by have:=N8 x d p;omega) h3
 exact ⟨⟨by omega,fun x hx=>by have:=b0 x hx;omega,by omega,fun x hx=>by have:=b1 x hx;omega,by omega,by omega⟩,⟨fun x hx=>by have:=b2 x hx;omega,fun x hx=>by have:=b3 x hx;omega⟩⟩
theorem cells4 {cs:Array Value} {a b c d:Value} (h:(Value.agg cs).cells.toList=[a,b,c,d]):cs= #[a,b,c,d]:=by
 have:cs.toList=[a,b,c,d]:=h
 cases cs;simp_all
end Go.Proofs.YtjecgaiaiophpaaGreatDoor
namespace Go.Proofs.YtjecgaiaiophpaaGreatDoor
open Go
theorem tt {a b:Bool} (ha:a=true) (hb:b=true):(a&&b)=true:=by rw [ha,hb];rfl
theorem TR {P:Program} {f:FuncId} {fn:Func} {s:ChangeSpec} {c:OpenClaim}
 (h1:c.wf (OpenSpec.ofChange s)=true) (h2:laidOutB P=true) (h3:mapsRowed P=true) (h4:fn.params.all (P.readableRec ·)=true) (h5:namedTie P c.named s.vars=true)
 (h6:(c.stops == [])=true) (h7:(P.stops == [])=true) (h8:(c.knobs == [])=true) (h9:(P.stopKnobs == [])=true)
 (h10:(c.inPlace == P.inPlace f)=true) (h11:(c.unfollowed == P.unfollowed f)=true) (h12:(c.recurses == P.recurses f)=true) (h13:(c.named == P.varsNamed f)=true)
 (h14:(c.maps == (fn.params.toList++s.plain.varTypes P).any (P.mapsRec ·))=true) (h15:(c.ifaces == (fn.params.toList++s.plain.varTypes P).any (P.ifacesRec ·))=true) (h16:(c.mapsOut == P.mapsAmong fn.resultTypes.toList)=true)
 (h17:(c.loops == (fn.params.toList++s.plain.varTypes P).any (P.loopsFrom ·))=true) (h18:(c.wideKeys == (fn.params.toList++s.plain.varTypes P++fn.resultTypes.toList).any (P.wideKeysFrom ·))=true)
 (h19:s.vars.all (P.varReadable ·)=true) (h20:fn.resultTypes.all (fun t=>P.readableRec t&&decide (t<P.types.size))=true) (h21:(c.ifacesOut == fn.resultTypes.toList.any (P.ifacesRec ·))=true) (h22:(c.loopsOut == fn.resultTypes.toList.any (P.loopsFrom ·))=true)
 (h23:(c.plainKeys == P.plainKeys)=true) (h24:c.shortTexts.isNone=true) (h25:P.stopsHeard=true) (h26:P.mayEnter=true) (h27:(c.lifted == P.liftsFinal)=true) (h28:(P.make == some c.make)=true)
 (h29:(c.kinds == (if c.domain.isEmpty then [] else fn.params.toList.map fun t=>match P.underlying t with|some (.int k)=>some k|_=>none))=true) (h30:(c.pinned == c.pinnedBy)=true)
 (h31:(c.veiled == (fn.params.toList++s.plain.varTypes P++fn.resultTypes.toList).any (P.veiledRec ·))=true) (h32:c.veiledFits P fn.params.toList (fn.params.toList++s.plain.varTypes P++fn.resultTypes.toList)=true):joinedFacts P f fn s c=true:=by
 unfold joinedFacts
 exact tt (tt (tt (tt (tt (tt (tt (tt (tt (tt (tt (tt (tt (tt (tt (tt (tt (tt (tt (tt (tt (tt (tt (tt (tt (tt (tt (tt (tt (tt (tt h1 h2) h3) h4) h5) h6) h7) h8) h9) h10) h11) h12) h13) h14) h15) h16) h17) h18) h19) h20) h21) h22) h23) h24) h25) h26) h27) h28) h29) h30) h31) h32
theorem abf:mapsRowed Tryz.prog=true:=by kernel_rfl
theorem abg:laidOutB Tryz.prog=true:=by kernel_rfl
theorem af2:Tryz.prog.mayEnter=true:=by kernel_rfl
theorem Y5:Tryz.prog.stopsHeard=true:=by kernel_rfl
end Go.Proofs.YtjecgaiaiophpaaGreatDoor
