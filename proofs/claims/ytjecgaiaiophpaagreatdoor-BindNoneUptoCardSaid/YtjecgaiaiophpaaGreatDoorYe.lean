/-
  Texts of this claim, one behind the other: E9, Im, G1, L1, G2, G4, G3, G5, F0, F1, G6, I4, I5, L2, I6, G7, G8, L3, L4, G9, I1, I7, I8, K1, V1, K3, K4, K5, Bulk, I2, I3.
-/
import Derived.Test.YtjecgaiaiophpaaGreatDoorYd
import Derived.Test.YtjecgaiaiophpaaGreatDoorRows
import Derived.ChangeSame
import Derived.ProofKit
import Derived.JoinedCond
set_option linter.all false
set_option maxHeartbeats 16000000
set_option maxRecDepth 8000
namespace Go.Proofs.YtjecgaiaiophpaaGreatDoor
open Go Wk
open Go.RowKit (Below)
attribute [local irreducible] Go.Calls
structure RdG (Pb:Nat→Prop) (w:World) (g:Giv) (tv cv fv gv:Value):Prop where
 t:RdS rNd 3 Pb w tv g.tree
 c:RdS rCd 7 Pb w cv g.cards
 f:RdS (Wk.one vs) 1 Pb w fv g.fails
 g:RdS (Wk.one vs) 1 Pb w gv g.gone
theorem RdG.keep {Pb:Nat→Prop} {w w':World} {g:Giv} {tv cv fv gv:Value} (h:RdG Pb w g tv cv fv gv) (hk:Keep Pb w w') (sc:Stable rCd):RdG Pb w' g tv cv fv gv:=
 ⟨h.t.keep nO hk,h.c.keep sc hk,h.f.keep (nT _) hk,h.g.keep (nT _) hk⟩
noncomputable def nX (g:Giv) (i:Nat):Bn:=if i<g.tree.length then zX g i else default
def Px (g:Giv) (lo:Nat) (r:Value) (w':World):Prop:= ∃bw bm N fl nv ov,r=.tuple #[pT bw,vi 0]∧WkM (fun b=>lo≤b) bw bm N (pX (nX g) g.tree.length) fl nv ov w'∧N.length=g.tree.length∧bnF N=nX g∧(∀i,stF N i=0)∧ ∀s,flF fl s=g.fails.contains s
def rRd:Rel Rnd:=fun Pb w r cs=> ∃tv wv,cs=[tv,wv]∧ny (Wk.one viN) 3 1 Pb NoB w tv r.tried∧ny (flat wtC) 161 2 Pb NoB w wv r.waits
theorem Ug:Stable rRd:=fun _ _ _ _ _ hk ⟨tv,wv,e,h1,h2⟩=>⟨tv,wv,e,h1.keep (nT _) hk (fun _ e=>e.elim),h2.keep (nU wtC) hk (fun _ e=>e.elim)⟩
theorem Jy:AY rRd:=fun _ _ _ _ _ hP ⟨tv,wv,e,h1,h2⟩=>⟨tv,wv,e,h1.mono (nD _) hP (fun _ _ e=>e),h2.mono (nP wtC) hP (fun _ _ e=>e)⟩
theorem BL:qG rRd 2:=⟨Ug,Jy,fun Pb w x cs ⟨tv,wv,e,h1,h2⟩ _ c hc=>by
 obtain ⟨_,_,rfl,_,_⟩:=h1.form
 obtain ⟨_,_,rfl,_,_⟩:=h2.form
 subst e
 simp at hc
 rcases hc with rfl|rfl<;>rfl⟩
structure RdR (Pb:Nat→Prop) (w:World) (rw:List Rws) (rs:List Rnd) (us ds:List Ed) (a b c d:Value):Prop where
 rows:ny (flat rwC) 39 3 Pb NoB w a rw
 rounds:ny rRd 76 2 Pb Pb w b rs
 used:RdS rEd 6 Pb w c us
 drop:RdS rEd 6 Pb w d ds
def LH (g:Giv) (lo:Nat) (r:Value) (w':World):Prop:= ∃a b c d bw bm N fl nv ov,r=.tuple #[.agg #[a,b,c,d],pT bw,vi 0]∧
 RdR (fun b=>lo≤b) w' (rowsOf (nX g) (rC (nX g) g.fails.contains g.tree.length).2 g.tree.length) (rC (nX g) g.fails.contains g.tree.length).1 (Di g.tree fun k=>(rC (nX g) g.fails.contains g.tree.length).2 k == 1).1 (Di g.tree fun k=>(rC (nX g) g.fails.contains g.tree.length).2 k == 1).2 a b c d∧
 WkM (fun b=>lo≤b) bw bm N (pX (nX g) g.tree.length) fl nv ov w'∧N.length=g.tree.length∧bnF N=nX g∧(∀i,i<g.tree.length→stF N i=(rC (nX g) g.fails.contains g.tree.length).2 i)∧ ∀s,flF fl s=g.fails.contains s
theorem zY (N:Nat→Bn) (fl:Nm→Bool) (order:List Nat) (f:Nat) (S:St):doneGo N fl order (f+1) S=if (oh N fl order S).1.tried=[] then ((if (oh N fl order S).1.tried=[]∧(oh N fl order S).1.waits=[] then [] else [(oh N fl order S).1]),(oh N fl order S).2) else ((if (oh N fl order S).1.tried=[]∧(oh N fl order S).1.waits=[] then [] else [(oh N fl order S).1])++(doneGo N fl order f (oh N fl order S).2).1,(doneGo N fl order f (oh N fl order S).2).2):=by
 rw [doneGo]
end Go.Proofs.YtjecgaiaiophpaaGreatDoor
namespace Go.Proofs.YtjecgaiaiophpaaGreatDoor
open Go Wk
open Go.RowKit (Below)
abbrev imP (L:List (Nat×Int)):List (Value×Value):=L.map fun p=>(vi p.1,vi p.2)
def ImL (W:World) (b:Nat) (f:Nat→Option Int):Prop:= ∃L:List (Nat×Int),(L.map (·.1)).Nodup∧qO Tryz.prog 3 W b (imP L)∧ ∀i v,f i=some v↔(i,v)∈L
theorem Xq:Maps.Keyed Tryz.prog 3:=Maps.int_keyed Tryz.underlying3
theorem Xr {i:Nat} (h:i<9223372036854775808):keyOf Tryz.prog 3 (vi i)=some (.int .i64 i):=
 Maps.keyOf_int_mk Tryz.underlying3 (by simp [Lit.wf,IntKind.min,IntKind.max,IntKind.signed,IntKind.bits];omega)
section
variable {W W':World} {b:Nat} {f:Nat→Option Int} {M:Nat→Prop}
theorem ImL.chg (h:ImL W b f) (c:Chg M W W') (hb: ¬M b):ImL W' b f:=by
 obtain ⟨L,h1,h2,h3⟩:=h
 exact ⟨L,h1,h2.chg c hb,h3⟩
theorem ImL.adX (h:qO Tryz.prog 3 W b []):ImL W b (fun _=>none):=⟨[],by simp,h,fun i v=>by simp⟩
def EQ (f:Nat→Option Int) (k:Nat) (u:Int):Nat→Option Int:=fun i=>if i=k then some u else f i
theorem Xt {L:List (Nat×Int)} {j k:Nat} {v u:Int} (hn:(L.map (·.1)).Nodup) (hj:L[j]? =some (k,v)):((L.set j (k,u)).map (·.1)).Nodup∧ ∀i x,(i,x)∈L.set j (k,u)↔(i=k∧x=u)∨(i≠k∧(i,x)∈L):=by
 have hjl:=(List.getElem?_eq_some_iff.1 hj).1
 have e1:(L.set j (k,u)).map (·.1)=L.map (·.1):=by
  apply List.ext_getElem?
  intro m
  rw [List.getElem?_map,List.getElem?_map,List.getElem?_set]
  by_cases e:j=m
  ·subst e;rw [if_pos rfl,if_pos hjl,hj];rfl
  ·rw [if_neg e]
 have key: ∀(m:Nat) (p:Nat×Int),L[m]? =some p→p.1=k→m=j:=by
  intro m p hm e
  have hml:=(List.getElem?_eq_some_iff.1 hm).1
  refine ((List.getElem?_inj (by simpa using hml) hn).1 ?_)
  rw [List.getElem?_map,List.getElem?_map,hm,hj];simp [e]
 refine ⟨by rw [e1];exact hn,fun i x=>?_⟩
 rw [List.mem_iff_getElem?]
 constructor
 ·rintro ⟨m,hm⟩
  rw [List.getElem?_set] at hm
  by_cases e:j=m
  ·rw [if_pos e,if_pos (by omega)] at hm
   cases hm;exact .inl ⟨rfl,rfl⟩
  ·rw [if_neg e] at hm
   refine .inr ⟨fun e2=>e (key m _ hm e2).symm,List.mem_of_getElem? hm⟩
 ·rintro (⟨rfl,rfl⟩|⟨h1,h2⟩)
  ·exact ⟨j,by rw [List.getElem?_set,if_pos rfl,if_pos hjl]⟩
  ·obtain ⟨m,hm⟩:=List.mem_iff_getElem?.1 h2
   refine ⟨m,?_⟩
   rw [List.getElem?_set,if_neg]
   ·exact hm
   ·intro e
    subst e
    rw [hj] at hm;cases hm;exact h1 rfl
end
section
variable {n:Nat} {ds:List Deferred} {Q:Po} {F:Fr} {w w':World} {ops rest:List Oper} {d:Nat} {ty:TypeId} {pos:String} {aft:Array Edge}
theorem iV {x i y:Operand} {t e:TypeId} {b k:Nat} {u:Int} {f:Nat→Option Int} [ht:Und Tryz.prog t (.map 3 e)] (h:ImL w b f) (hk:k<9223372036854775808)
 (hx:ev n F x=.map (some b)) (hi:ev n F i=vi k) (hy:ev n F y=vi u) (c: ∀w',ImL w' b (EQ f k u)→Chg (fun j=>j=b) w w'→w'.heap.size=w.heap.size→Wl Tryz.prog n ds Q ops rest F w'):
 Wl Tryz.prog n ds Q ops (⟨none,.mapUpdate t x i y,ty,pos,aft,none⟩::rest) F w:=by
 obtain ⟨L,h1,h2,h3⟩:=h
 by_cases hin: ∃v,(k,v)∈L
 ·obtain ⟨v,hv⟩:=hin
  have hvm:((vi k,vi v):Value×Value)∈imP L:=List.mem_map.2 ⟨_,hv,rfl⟩
  refine jC Xq h2 (Xr hk) hvm hx hi hy fun w' j v' hj m c' s=>c w' ?_ c' s
  rw [List.getElem?_map] at hj
  obtain ⟨⟨k',v2⟩,hj1,hj2⟩:=Option.map_eq_some_iff.1 hj
  simp only [Prod.mk.injEq,Value.int.injEq,true_and] at hj2
  obtain rfl:k'=k:=by omega
  obtain ⟨q1,q2⟩:=Xt (u:=u) h1 hj1
  refine ⟨L.set j (k',u),q1,?_,fun i x=>?_⟩
  ·rw [imP,List.map_set];exact m
  ·rw [q2]
   unfold EQ
   by_cases e:i=k'
   ·rw [if_pos e];simp [e];exact eq_comm
   ·rw [if_neg e,h3];simp [e]
 ·have hno: ∀p∈imP L,p.1≠vi k:=by
   intro p hp e
   obtain ⟨⟨k',v⟩,hm,rfl⟩:=List.mem_map.1 hp
   simp only [Value.int.injEq,true_and] at e
   obtain rfl:k'=k:=by omega
   exact hin ⟨v,hm⟩
  refine fZ Xq h2 (Xr hk) hno hx hi hy fun w' m c' s=>c w' ⟨L++ [(k,u)],?_,?_,fun i x=>?_⟩ c' s
  ·rw [List.map_append,List.nodup_append]
   refine ⟨h1,by simp,fun a ha b hb e=>?_⟩
   simp at hb
   obtain ⟨p,hp,rfl⟩:=List.mem_map.1 ha
   refine hin ⟨p.2,?_⟩
   rw [←hb, ←e];exact hp
  ·rw [imP,List.map_append];exact m
  ·unfold EQ
   by_cases e:i=k
   ·rw [if_pos e,List.mem_append]
    subst e
    constructor
    ·intro q;cases q;simp
    ·rintro (q|q)
     ·exact absurd ⟨x,q⟩ hin
     ·simp at q;rw [q]
   ·rw [if_neg e,h3,List.mem_append];simp [e]
theorem Wk.Wl.adY {x i:Operand} {t e:TypeId} {b k:Nat} {bytes:Nat} {f:Nat→Option Int} [ht:Und Tryz.prog t (.map 3 e)] [he:ElT Tryz.prog e 1 bytes false (vi 0)] (h:ImL w b f) (hk:k<9223372036854775808)
 (hx:ev n F x=.map (some b)) (hi:ev n F i=vi k) (c:Wl Tryz.prog n ds Q ops rest (upd F d (.tuple #[vi ((f k).getD 0),.bool (f k).isSome])) w):
 Wl Tryz.prog n ds Q ops (⟨some d,.lookup t x i true,ty,pos,aft,none⟩::rest) F w:=by
 obtain ⟨L,h1,h2,h3⟩:=h
 refine jB Xq h2 (Xr hk) hx hi (fun r hr=>?_) (fun hr=>?_)
 ·obtain ⟨⟨k',v⟩,hm,e⟩:=List.mem_map.1 hr
  simp only [Prod.mk.injEq,Value.int.injEq,true_and] at e
  obtain ⟨e1,rfl⟩:=e
  obtain rfl:k'=k:=by omega
  rw [(h3 _ _).2 hm] at c
  exact c
 ·have:f k=none:=by
   cases hf:f k with
   |none=>rfl
   |some v=>exact absurd rfl (hr _ (List.mem_map.2 ⟨_,(h3 _ _).1 hf,rfl⟩))
  rw [this] at c
  exact c
end
end Go.Proofs.YtjecgaiaiophpaaGreatDoor
namespace Go.Proofs.YtjecgaiaiophpaaGreatDoor
open Go Wk
open Go.RowKit (Below)
attribute [local irreducible] Go.Calls
theorem N7 {g:Giv} (hok:nV g.tree=true) {i:Nat} (hi:i<g.tree.length):sG g i=if g.gone.contains (oz g.tree i)=true then some i else if i=0 then none else sG g (par g.tree i):=by
 unfold sG
 by_cases h0:i=0
 ·subst h0
  rw [Ag,List.nil_append,List.find?_cons,if_pos rfl]
  cases g.gone.contains (oz g.tree 0)<;>rfl
 ·rw [Ah hok h0 hi,List.cons_append,List.find?_cons,if_neg h0]
  cases g.gone.contains (oz g.tree i)<;>rfl
section
variable {Pb:Nat→Prop} {bw bm:Nat} {N:List Nb} {ord:List Nat} {fl:List (Nm×Int)} {nv ov:Value} {W W':World}
theorem LJ {b2 i:Nat} (g:WkM Pb bw bm N ord fl nv ov W) (h2:Bk W b2 42 [pT bw]) (hi:i<N.length):
 Calls Tryz.prog 102 #[vi i,pT b2] W (Ret fun r w'=>r=.tuple #[.bool ((bnF N i).device&&(bnF N i).card.isNone),vi (-1)]∧w'=W):=by
 have hnl:=g.nl
 obtain ⟨na,nc,rfl,_,_⟩:=g.nd.row.form
 have hrd:=g.nd.row.rd (nP nbC)
 obtain ⟨x,hx⟩:=nN N hi
 rw [rJ hx]
 refine mQ Tryz.func102 rfl Tryz.ntmps102 rfl ?_
 (repeat' (first|refine aa1 ?_|refine af ?_|refine ah ?_|refine aj ?_|refine ai ?_))
 refine au (u:=pT bw) rfl (h2.cell (o:=0) rfl) ?_
 (repeat' (first|refine bI rfl ?_|refine aa5 ?_))
 refine au (u:=.slice na N.length nc) rfl (g.b.cell (o:=0) rfl) ?_
 (repeat' (refine aa0 ?_))
 refine bD hrd rfl rfl (by omega) (by rw [Int.toNat_natCast];exact hx) fun b o cs hl hR hat=>?_
 obtain rfl:cs=nbC x:=hR
 (repeat' (refine aa5 ?_))
 refine au (u:=.bool x.bn.device) rfl (hat.get 1 rfl) ?_
 cases hd:x.bn.device with
 |false=>
  (repeat' (first|refine aa0 ?_|refine aa1 ?_|refine af ?_|refine qi ?_|refine pq ?_|refine ah ?_|refine ax ?_))
  exact aW rfl rfl rfl ⟨_,rfl,rfl,rfl⟩
 |true=>
  (repeat' (first|refine aa0 ?_|refine aa6 ?_))
  refine au (u:=pT bw) rfl (h2.cell (o:=0) rfl) ?_
  (repeat' (first|refine aa6 ?_|refine bI rfl ?_|refine aa5 ?_))
  refine au (u:=.slice na N.length nc) rfl (g.b.cell (o:=0) rfl) ?_
  (repeat' (first|refine aa0 ?_|refine aa6 ?_))
  refine bD hrd rfl rfl (by omega) (by rw [Int.toNat_natCast];exact hx) fun b o cs hl hR hat=>?_
  obtain rfl:cs=nbC x:=hR
  (repeat' (first|refine aa6 ?_|refine aa5 ?_))
  refine au (u:=vi (qw x.bn.card)) rfl (hat.get 4 rfl) ?_
  clear hat
  cases hc:x.bn.card with
  |none=>
   rw [show qw none= -1 from rfl]
   (repeat' (first|refine aa1 ?_|refine af ?_|refine aa6 ?_|refine pG ?_|refine ah ?_|refine ax ?_|(refine aa9 (fun _=>?_) (fun _=>?_)<;>(first|(exfalso;omega)|skip))))
   exact aW rfl rfl rfl ⟨_,rfl,rfl,rfl⟩
  |some k=>
   rw [show qw (some k)=(k:Int) from rfl]
   (repeat' (first|refine aa1 ?_|refine af ?_|refine aa6 ?_|refine pG ?_|refine ah ?_|refine ax ?_|(refine aa9 (fun _=>?_) (fun _=>?_)<;>(first|(exfalso;omega)|skip))))
   exact aW rfl rfl rfl ⟨_,rfl,rfl,rfl⟩
theorem Jz {b2 b4 bq i m r:Nat} {mc:List Value} {f:Nat→Option Int} (g:WkM Pb bw bm N ord fl nv ov W) (h2:Bk W b2 42 [pT bw]) (h4:Bk W b4 188 mc) (hq:Bk W bq 5 [.int .u8 r]) (hr:r<7) (hm:mc[r]? =some (.map (some m))) (hf:ImL W m f) (hi:i<N.length):
 Calls Tryz.prog 101 #[vi i,pT b4,pT bq,pT b2] W (Ret fun v w'=>v=.tuple #[.bool ((f i).isSome&&(bnF N i).device),vi ((f i).getD 0)]∧w'=W):=by
 have hnl:=g.nl
 obtain ⟨na,nc,rfl,_,_⟩:=g.nd.row.form
 have hrd:=g.nd.row.rd (nP nbC)
 obtain ⟨x,hx⟩:=nN N hi
 rw [rJ hx]
 refine mQ Tryz.func101 rfl Tryz.ntmps101 rfl ?_
 (repeat' (first|refine aa1 ?_|refine af ?_|refine ah ?_|refine aj ?_|refine ai ?_))
 refine au (u:=.int .u8 r) rfl (hq.cell (o:=0) rfl) ?_
 skip
 refine gY rfl rfl (by omega) (by omega) ?_
 skip
 refine au (u:=.map (some m)) rfl (h4.cell (o:=r) hm) ?_
 (repeat' (refine aa0 ?_))
 refine Wl.adY hf (by omega) rfl rfl ?_
 (repeat' (first|refine aa0 ?_|refine aa1 ?_|refine af ?_|refine aa8 ?_|refine ah ?_|refine aj ?_|refine ai ?_))
 cases hs:f i with
 |none=>
  rw [show (none:Option Int).isSome=false from rfl]
  (repeat' (first|refine aa0 ?_|refine aa1 ?_|refine af ?_|refine qi ?_|refine pq ?_|refine ah ?_|refine ax ?_))
  exact aW rfl rfl rfl ⟨_,rfl,rfl,rfl⟩
 |some u=>
  rw [show (some u).isSome=true from rfl]
  (repeat' (refine aa6 ?_))
  refine au (u:=pT bw) rfl (h2.cell (o:=0) rfl) ?_
  (repeat' (first|refine aa6 ?_|refine bI rfl ?_|refine aa5 ?_))
  refine au (u:=.slice na N.length nc) rfl (g.b.cell (o:=0) rfl) ?_
  (repeat' (first|refine aa0 ?_|refine aa6 ?_))
  refine bD hrd rfl rfl (by omega) (by rw [Int.toNat_natCast];exact hx) fun b o cs hl hR hat=>?_
  obtain rfl:cs=nbC x:=hR
  (repeat' (first|refine aa6 ?_|refine aa5 ?_))
  refine au (u:=.bool x.bn.device) rfl (hat.get 1 rfl) ?_
  (repeat' (first|refine aa0 ?_|refine aa1 ?_|refine af ?_|refine pG ?_|refine ah ?_|refine ax ?_))
  exact aW rfl rfl rfl ⟨_,rfl,rfl,rfl⟩
theorem zZ {b2 b4 r:Nat}:Calls Tryz.prog 100 #[.int .u8 r,pT b4,pT b2] W (Ret fun v w'=> ∃bq,v=.agg #[.int .u8 r,.func (.func 101) #[] #[pT b4,pT bq,pT b2]]∧W.heap.size≤bq∧Bk w' bq 5 [.int .u8 r]∧New W w'):=by
 refine mQ Tryz.func100 rfl Tryz.ntmps100 rfl ?_
 (repeat' (first|refine aj ?_|refine ai ?_))
 refine bJ rfl fun w1 b1 n1 s1=>?_
 replace b1:Bk w1 W.heap.size 5 [.int .u8 r]:=b1
 refine Wl.alloc fun w2 h2 n2 s2=>?_
 replace h2:Bk w2 w1.heap.size 203 [.int .u8 0,.nilFunc]:=h2
 (repeat' (first|refine af ?_|refine ah ?_|refine aj ?_|refine ai ?_))
 refine au (u:=.int .u8 r) rfl ((b1.chg n2 fun e=>e).cell (o:=0) rfl) ?_
 skip
 refine dL (f1:=[]) (c1:=[pT b4,pT W.heap.size,pT b2]) rfl rfl ?_
 skip
 refine bZ (ps:=[(0,.tmp 5),(1,.tmp 6)]) (parts:=[(0,.int .u8 r),(1,.func (.func 101) #[] #[pT b4,pT W.heap.size,pT b2])]) rfl rfl (by simp [Value.cells]) ?_
 refine aX (new:=[.int .u8 r,.func (.func 101) #[] #[pT b4,pT W.heap.size,pT b2]]) h2 rfl rfl rfl rfl (show (2:Nat)≤2 from Nat.le_refl 2) (by intro c hc;simp at hc;rcases hc with rfl|rfl<;>rfl) fun w3 b3 c3 s3=>?_
 (repeat' (first|refine af ?_|refine ah ?_|refine ax ?_))
 have hz:=n1.size
 have hb1:=b1.lt
 refine eP (zO rfl (rO rfl rfl b3 rfl)) ⟨_,rfl,W.heap.size,rfl,Nat.le_refl _,(b1.chg n2 fun e=>e).chg c3 fun e=>by omega,(Chg.trans (M:=fun k=>k=w1.heap.size) (New.trans n1 n2).any c3 fun k _ e=>e).toNew fun k hk e=>by omega⟩
theorem LK {b1 b2 b3 gm i:Nat} {L:List (Nm×Int)} {G:Giv} {tv cv fv gv:Value} {Pt:Nat→Prop} (g:WkM Pb bw bm N ord fl nv ov W) (h1:Bk W b1 104 [.map (some gm)]) (h2:Bk W b2 42 [pT bw]) (h3:Bk W b3 27 [tv,cv,fv,gv]) (ht:RdS rNd 3 Pt W tv G.tree) (mp:qO Tryz.prog 9 W gm (GX L)) (cn:Cnt G.gone L)
 (hok:nV G.tree=true) (hN:N.length=G.tree.length) (hp: ∀k,k<N.length→(bnF N k).path=oz G.tree k) (hi:i<N.length):
 Calls Tryz.prog 103 #[vi i,pT b1,pT b2,pT b3] W (Ret fun v w'=>v=.tuple #[.bool (sG G i).isSome,vi (qw (sG G i))]∧New W w'):=by
 have hnl:=g.nl
 obtain ⟨na,nc,rfl,_,_⟩:=g.nd.row.form
 have hrd:=g.nd.row.rd (nP nbC)
 obtain ⟨ta,tc,rfl,_,_⟩:=ht.form
 refine mQ Tryz.func103 rfl Tryz.ntmps103 rfl ?_
 (repeat' (first|refine aa1 ?_|refine af ?_|refine ah ?_|refine aj ?_|refine ai ?_|refine Wc.block ?_))
 refine aU (σ:=Option Nat) (fun q=>[(0,vi (qw q)),(1,pT b1),(2,pT b2),(3,pT b3)])
  (fun q w'=>(∀k,q=some k→k<N.length∧sG G i=sG G k)∧(q=none→sG G i=none)∧New W w') (fun q=>(qw q+1).toNat) (some i) ⟨rfl,rfl,rfl,rfl,trivial⟩ ⟨fun k e=>by cases e;exact ⟨hi,rfl⟩,fun e=>(by cases e),aV _ _⟩ ?_
 rintro q F w1 ⟨hs,hno,n1⟩
 simp only [oO]
 cases q with
 |none=>
  rw [hno rfl,show qw none= -1 from rfl]
  (repeat' (refine aj ?_))
  refine fM rfl (by kernel_rfl) ?_
  (repeat' (first|refine pF ?_|refine ak ?_|refine fQ rfl rfl ?_|refine dS rfl (by conv=>{lhs;whnf}) ?_|(refine Wq.geq rfl rfl (fun _=>?_) (fun _=>?_)<;>(first|(exfalso;omega)|skip))))
  intro w2 n2
  (repeat' (first|refine aa0 ?_|refine aa1 ?_|refine af ?_|refine ah ?_|refine aj ?_|refine ai ?_|refine aQ ?_|refine ax ?_|refine aS ?_|refine aP ?_|refine aT ?_|refine aa4 ?_|(refine cZ rfl rfl (fun _=>?_) (fun _=>?_)<;>(first|(exfalso;omega)|skip))))
  exact aW rfl rfl rfl ⟨_,rfl,rfl,New.trans n1 n2⟩
 |some k=>
  obtain ⟨hk,he⟩:=hs k rfl
  rw [he,N7 hok (by omega)]
  rw [show qw (some k)=(k:Int) from rfl]
  obtain ⟨x,hx⟩:=nN N hk
  have hxp:x.bn.path=oz G.tree k:=by rw [←rJ hx];exact hp k hk
  have hpl:=g.fn.2 x (List.mem_of_getElem? hx)
  obtain ⟨qk,hqk⟩:=Jw (s:=x.bn.path) (by omega)
  obtain ⟨y,hy⟩:=nN G.tree (k:=k) (by omega)
  have hyk:=qA hok hy
  have hya:ndA G.tree k=y:=by unfold ndA;rw [List.getD_eq_getElem?_getD,hy];rfl
  (repeat' (refine aj ?_))
  refine fM rfl (by kernel_rfl) ?_
  (repeat' (first|refine pF ?_|refine di rfl rfl ?_|(refine Wq.geq rfl rfl (fun _=>?_) (fun _=>?_)<;>(first|(exfalso;omega)|skip))))
  refine aB (u:=.map (some gm)) rfl (fun w' hw=>(h1.chg (New.trans n1 hw) fun e=>e).cell (o:=0) rfl) ?_
  (repeat' (refine di rfl rfl ?_))
  refine aB (u:=pT bw) rfl (fun w' hw=>(h2.chg (New.trans n1 hw) fun e=>e).cell (o:=0) rfl) ?_
  (repeat' (first|refine di rfl rfl ?_|refine bF rfl ?_|refine pK ?_))
  refine aB (u:=.slice na N.length nc) rfl (fun w' hw=>(g.b.chg (New.trans n1 hw) fun e=>e).cell (o:=0) rfl) ?_
  (repeat' (first|refine pF ?_|refine di rfl rfl ?_))
  refine dD hrd (fun w' hw=>(New.trans n1 hw).keep) rfl rfl (by omega) (by rw [Int.toNat_natCast];exact hx) fun b o cs hl hR hat=>?_
  obtain rfl:cs=nbC x:=hR
  (repeat' (first|refine di rfl rfl ?_|refine pK ?_))
  refine aB (u:=vs x.bn.path) rfl (fun w' hw=>(hat w' hw).get 0 rfl) ?_
  clear hat
  (repeat' (refine di rfl rfl ?_))
  refine jQ (l:=GX L) (Maps.string_keyed Tryz.underlying9) (fun w' hw=>mp.chg (New.trans n1 hw) fun e=>e) (fun r r' m1 m2=>?_) hqk rfl rfl (fun r hr=>?_) (fun hr=>?_)
  ·obtain ⟨⟨s1,c1⟩,q1,e1⟩:=List.mem_map.1 m1
   obtain ⟨⟨s2,c2⟩,q2,e2⟩:=List.mem_map.1 m2
   simp only [Prod.mk.injEq] at e1 e2
   obtain rfl:=wu e1.1
   obtain rfl:=wu e2.1
   rw [←e1.2, ←e2.2,EW cn.nd q1 q2]
  ·obtain ⟨⟨s1,c1⟩,q1,e1⟩:=List.mem_map.1 hr
   simp only [Prod.mk.injEq] at e1
   obtain ⟨e1,rfl⟩:=e1
   obtain rfl:=wu e1
   have hc:=cn.mem _ q1
   dsimp only at hc
   (repeat' (first|refine ak ?_|refine di rfl rfl ?_|refine dM rfl (by conv=>{lhs;whnf}) ?_|(refine Wq.eql rfl rfl (fun _=>?_) (fun _=>?_)<;>(first|(exfalso;omega)|skip))))
   intro w2 n2
   rw [if_pos (List.contains_iff_mem.2 (hxp▸hc.2.2))]
   (repeat' (first|refine aa0 ?_|refine aa1 ?_|refine af ?_|refine ah ?_|refine aj ?_|refine ai ?_|refine aQ ?_|refine ax ?_|refine aS ?_|refine aP ?_|refine aT ?_|refine aa4 ?_|(refine cZ rfl rfl (fun _=>?_) (fun _=>?_)<;>(first|(exfalso;omega)|skip))))
   exact aW rfl rfl rfl ⟨_,rfl,rfl,New.trans n1 n2⟩
  ·have hcn: ¬G.gone.contains (oz G.tree k)=true:=fun e=>by
    obtain ⟨c,hc⟩:=cn.all _ (List.contains_iff_mem.1 e)
    exact hr _ (List.mem_map.2 ⟨_,hc,rfl⟩) (by rw [hxp])
   (repeat' (first|refine ak ?_|refine di rfl rfl ?_|refine dM rfl (by conv=>{lhs;whnf}) ?_|(refine Wq.eql rfl rfl (fun _=>?_) (fun _=>?_)<;>(first|(exfalso;omega)|skip))))
   intro w2 n2
   rw [if_neg hcn]
   have n12:=New.trans n1 n2
   (repeat' (first|refine ah ?_|refine ai ?_|refine Wc.block ?_|refine Wc.skip ?_|refine aa3 ?_|refine aa5 ?_))
   refine au (u:=.slice ta G.tree.length tc) rfl ((h3.chg n12 fun e=>e).cell (o:=0) rfl) ?_
   (repeat' (refine aa0 ?_))
   refine bD (ht.keep nO n12.keep) rfl rfl (by omega) (by rw [Int.toNat_natCast];exact hy) fun b o cs hl hR hat=>?_
   obtain ⟨pvn,rfl,hpv⟩:=hR
   (repeat' (refine aa5 ?_))
   refine au (u:=vi y.parent) rfl (hat.get 0 rfl) ?_
   clear hat
   (repeat' (first|refine aa1 ?_|refine af ?_|refine aJ ?_))
   by_cases h0:k=0
   ·subst h0
    rw [(hyk.root rfl).1]
    refine aK none ⟨rfl,rfl,rfl,rfl,trivial⟩ ⟨fun k e=>(by cases e),fun _=>?_,n12⟩ (by simp [qw])
    exact if_pos rfl
   ·have hpar:=uo hok h0 (by omega)
    rw [hya] at hpar
    rw [hpar.2]
    rw [if_neg h0]
    exact aK (some (par G.tree k)) ⟨rfl,rfl,rfl,rfl,trivial⟩ ⟨fun j e=>by cases e;exact ⟨by omega,rfl⟩,fun e=>(by cases e),n12⟩ (by simp only [qw];omega)
end
end Go.Proofs.YtjecgaiaiophpaaGreatDoor
namespace Go.Proofs.YtjecgaiaiophpaaGreatDoor
open Go Wk
def qf (g:Giv):Int:=if nV g.tree=false then 40 else if sK g.cards=false then 70 else if 512<g.fails.length∨512<g.gone.length then 1 else 0
theorem xh {g:Giv}:qf g=0↔nV g.tree=true∧sK g.cards=true∧g.fails.length≤512∧g.gone.length≤512:=by
 unfold qf
 cases nV g.tree<;>cases sK g.cards<;>simp
theorem Aa {g:Giv} {i:Nat} (h:i<g.tree.length):nX g i=zX g i:=if_pos h
theorem Ui {g:Giv} {i:Nat} (h: ¬i<g.tree.length):nX g i=default:=if_neg h
theorem LM (g:Giv) (i:Nat):(zX g i).wants=(if 0<i then [par g.tree i] else [])++xg g.tree i:=rfl
theorem QU {t:List Nd} {i k:Nat}:k∈xg t i↔ ∃e∈nY t,e.src=i∧e.soft=false∧qF t i=true∧e.dst=some k:=by
 unfold xg
 rw [List.mem_filterMap]
 constructor
 ·rintro ⟨e,he,h⟩
  split at h
  ·rename_i hc;exact ⟨e,he,hc.1,hc.2.1,hc.2.2,h⟩
  ·cases h
 ·rintro ⟨e,he,h1,h2,h3,h4⟩
  exact ⟨e,he,by rw [if_pos ⟨h1,h2,h3⟩];exact h4⟩
theorem QV {g:Giv} (hok:nV g.tree=true):InN (zX g) g.tree.length:=by
 intro i hi k hk
 rw [LM] at hk
 rcases List.mem_append.1 hk with hk|hk
 ·split at hk
  ·rename_i h0
   rw [List.mem_singleton.1 hk]
   have:=(uo hok (by omega) hi).1
   omega
  ·cases hk
 ·obtain ⟨e,he,_,_,_,h4⟩:=QU.1 hk
  exact (vV e he).2 k h4
theorem D5 {g:Giv} (hok:nV g.tree=true):InN (nX g) g.tree.length:=by
 intro i hi k hk
 rw [Aa hi] at hk
 exact QV hok i hi k hk
theorem QW {g:Giv} (hok:nV g.tree=true) (fl:Nm→Bool) {i:Nat} (hi:i<g.tree.length):
 (rowOf (nX g) (rC (nX g) fl g.tree.length).2 i).1=0↔Bnd (nX g) fl i:=by
 obtain ⟨v,f⟩:=QO (nX g) fl g.tree.length
 rw [Ey]
 constructor
 ·exact fun h=>v.b i h.2
 ·exact fun h=>⟨h.inv.1,f.bnd v (D5 hok) h hi⟩
end Go.Proofs.YtjecgaiaiophpaaGreatDoor
namespace Go.Proofs.YtjecgaiaiophpaaGreatDoor
open Go Wk
open Go.RowKit (Below)
attribute [local irreducible] Go.Calls
def wK (G:Giv) (es:List Ed) (i:Nat):Bn:=
 {path:=oz G.tree i,device:=qF G.tree i,level:=match (if qF G.tree i=true then qI G.cards G.tree i else none) with|some k=>(G.cards.getD k default).level|none=>0,
  reason:=if onM G.tree i=false then 1 else 0,card:=if qF G.tree i=true then qI G.cards G.tree i else none,why:= -1,
  wants:=(if 0<i then [par G.tree i] else [])++es.filterMap fun e=>if e.src=i∧e.soft=false∧qF G.tree i=true then e.dst else none}
def wL (G:Giv) (es:List Ed) (i:Nat):Bn:=if i<G.tree.length then wK G es i else default
abbrev cnts (t:List Nd) (e:Ed):Bool:= !e.soft&&qF t e.src
def uG (t:List Nd) (es:List Ed) (i:Nat):Option Int:=if es.any (fun e=>decide (e.src=i)&&(cnts t e&&e.dst.isNone))=true then some (-1) else none
theorem N8 (t:List Nd) (es:List Ed) (e:Ed):uG t (es++ [e])=if (cnts t e&&e.dst.isNone)=true then EQ (uG t es) e.src (-1) else uG t es:=by
 funext i
 unfold uG
 rw [List.any_append,List.any_cons,List.any_nil,Bool.or_false]
 cases hc:(cnts t e&&e.dst.isNone) with
 |false=>rw [if_neg (by decide: ¬false=true),Bool.and_false,Bool.or_false]
 |true=>
  rw [if_pos rfl,Bool.and_true]
  unfold EQ
  by_cases hi:i=e.src
  ·rw [if_pos hi,if_pos];simp [hi]
  ·rw [if_neg hi]
   have:decide (e.src=i)=false:=decide_eq_false fun h=>hi h.symm
   rw [this,Bool.or_false]
theorem N9 (G:Giv) (es:List Ed) (e:Ed) (i:Nat):wK G (es++ [e]) i=if i=e.src∧cnts G.tree e=true then (match e.dst with|some d=>{wK G es i with wants:=(wK G es i).wants++ [d]}|none=>wK G es i) else wK G es i:=by
 unfold wK
 rw [List.filterMap_append]
 by_cases hi:i=e.src∧cnts G.tree e=true
 ·rw [if_pos hi]
  obtain ⟨rfl,hc⟩:=hi
  simp only [cnts,Bool.and_eq_true,Bool.not_eq_true'] at hc
  cases hd:e.dst with
  |none=>simp [hc.1,hc.2,hd]
  |some d=>simp [hc.1,hc.2,hd]
 ·rw [if_neg hi]
  have: ¬(e.src=i∧e.soft=false∧qF G.tree i=true):=fun h=>hi ⟨h.1.symm,by rw [←h.1] at h;simp [cnts,h.2.1,h.2.2]⟩
  rw [List.filterMap_cons,if_neg this]
  simp
theorem Oa (G:Giv) (es:List Ed) (e:Ed):wL G (es++ [e])=if cnts G.tree e=true∧e.src<G.tree.length then (match e.dst with|some d=>fun i=>if i=e.src then {wL G es i with wants:=(wL G es i).wants++ [d]} else wL G es i|none=>wL G es) else wL G es:=by
 funext i
 unfold wL
 rw [N9]
 by_cases hc:cnts G.tree e=true∧e.src<G.tree.length
 ·rw [if_pos hc]
  cases e.dst with
  |none=>by_cases hl:i<G.tree.length<;>simp [hl]
  |some d=>
   dsimp only
   by_cases hi:i=e.src
   ·subst hi;simp [hc.1,hc.2]
   ·simp [hi]
 ·rw [if_neg hc]
  by_cases hl:i<G.tree.length
  ·rw [if_pos hl,if_pos hl,if_neg]
   rintro ⟨rfl,h⟩
   exact hc ⟨h,hl⟩
  ·rw [if_neg hl,if_neg hl]
def xk (rs:List (List Nat)) (i:Nat):Option Int:=(Gs rs i).map fun k=>(k:Int)
theorem Ob (rs:List (List Nat)) (l:List Nat) (i:Nat):xk (rs++ [l]) i=if i∈l then some ((l.headD 0:Nat):Int) else xk rs i:=by
 unfold xk Gs
 rw [List.foldl_append,List.foldl_cons,List.foldl_nil]
 split<;>rfl
theorem QX (rs:List Rfs) (r:Rfs):Gq (rs++ [r])=EQ (Gq rs) r.node r.by_:=by
 funext i
 unfold Gq EQ
 rw [List.foldl_append,List.foldl_cons,List.foldl_nil]
 by_cases h:i=r.node
 ·rw [if_pos h,if_pos h.symm]
 ·rw [if_neg h,if_neg fun e=>h e.symm]
noncomputable def zh (G:Giv) (i:Nat):Nat→Option Int
 |0=>if qF G.tree i=true∧qI G.cards G.tree i=none then some (-1) else none
 |1=>if qF G.tree i=true then Gq (qC G.cards G.tree).2 i else none
 |2=>if qF G.tree i=true then uG G.tree (nY G.tree) i else none
 |3=>if qF G.tree i=true then xk (rV G.tree) i else none
 |_=>(sG G i).map fun k=>(k:Int)
def Ac (p:Nat×Int) (r:Nat) (o:Option Int):Nat×Int:=if p.1=0 then (match o with|some y=>(r,y)|none=>p) else p
noncomputable def BM (G:Giv) (i:Nat):Nat→Nat×Int
 |0=>(if onM G.tree i=false then 1 else 0, -1)
 |m+1=>Ac (BM G i m) (m+2) (zh G i m)
theorem QY {t:List Nd} {i:Nat} (hd:qF t i=true):uG t (nY t) i=if (∃e∈nY t,e.src=i∧e.soft=false∧e.dst=none) then some (-1) else none:=by
 unfold uG
 by_cases h: ∃e∈nY t,e.src=i∧e.soft=false∧e.dst=none
 ·rw [if_pos h,if_pos]
  obtain ⟨e,he,h1,h2,h3⟩:=h
  refine List.any_eq_true.2 ⟨e,he,?_⟩
  simp [cnts,h1,h2,h3,hd]
 ·rw [if_neg h,if_neg]
  intro e
  obtain ⟨x,hx,h1⟩:=List.any_eq_true.1 e
  simp [cnts] at h1
  exact h ⟨x,hx,h1.1,h1.2.1.1,h1.2.2⟩
theorem Oc (G:Giv) (i:Nat):BM G i 5=firstM G i:=by
 have hd0:onM G.tree i=false→qF G.tree i=false:=fun h=>by unfold qF;rw [h];simp
 simp only [BM]
 unfold firstM
 dsimp only
 by_cases h1:onM G.tree i=false
 ·rw [if_pos h1,if_pos h1];rfl
 rw [if_neg h1,if_neg h1]
 by_cases h2:qF G.tree i=true∧qI G.cards G.tree i=none
 ·rw [if_pos h2]
  simp only [zh,if_pos h2];rfl
 rw [if_neg h2]
 simp only [zh,if_neg h2]
 cases hd:qF G.tree i with
 |false=>
  simp only [Bool.false_eq_true,if_false,false_and]
  cases sG G i<;>rfl
 |true=>
  simp only [if_true,true_and,QY hd]
  cases Gq (qC G.cards G.tree).2 i with
  |some b=>rfl
  |none=>
   by_cases h3: ∃e∈nY G.tree,e.src=i∧e.soft=false∧e.dst=none
   ·simp only [if_pos h3];rfl
   ·simp only [if_neg h3]
    unfold xk
    cases Gs (rV G.tree) i with
    |some k=>rfl
    |none=>cases sG G i<;>rfl
noncomputable def yt (G:Giv) (m i:Nat):Bn:={wK G (nY G.tree) i with reason:=(BM G i m).1,why:=(BM G i m).2}
theorem QZ (G:Giv) (i:Nat):yt G 5 i=zX G i:=by
 unfold yt wK zX xg
 rw [Oc]
 rfl
theorem Oe (G:Giv) (i:Nat):yt G 0 i=wK G (nY G.tree) i:=rfl
theorem JA {N:List Nb} {i:Nat} {y:Nb} (hi:i<N.length):bnF (N.set i y)=fun k=>if k=i then y.bn else bnF N k:=by
 funext k
 unfold bnF
 rw [List.getD_eq_getElem?_getD,List.getD_eq_getElem?_getD,List.getElem?_set]
 by_cases e:i=k
 ·subst e
  rw [if_pos rfl,if_pos hi,if_pos rfl];rfl
 ·rw [if_neg e,if_neg fun h=>e h.symm]
theorem JB {N:List Nb} {i:Nat} {y:Nb} (h: ∀k,stF N k=0) (hy:y.st=0): ∀k,stF (N.set i y) k=0:=by
 intro k
 have:=h k
 unfold stF at this ⊢
 rw [List.getD_eq_getElem?_getD] at this ⊢
 rw [List.getElem?_set]
 split
 ·split
  ·exact hy
  ·rfl
 ·exact this
section
variable {Pb:Nat→Prop} {bw bm:Nat} {N:List Nb} {fl:List (Nm×Int)} {nv:Value} {W W':World}
theorem WkM.want (g:WkM Pb bw bm N [] fl nv (.slice none 0 0) W) {i d:Nat} {x:Nb} {w1:World} {v':SV} (hx:N[i]? =some x) (hd:d<N.length) (ho:ny (Wk.one viN) 3 1 Pb NoB w1 (svV v') (x.bn.wants++ [d])) (c1:Chg (fun k=>(svV x.wv).ownBlock=some k) W w1) (lie:(svV v').ownBlock=(svV x.wv).ownBlock∨ ∀k,(svV v').ownBlock=some k→W.heap.size≤k)
 (hr:ny (flat nbC) 118 9 Pb NoB W' nv (N.set i {x with wv:=v',bn:={x.bn with wants:=x.bn.wants++ [d]}})) (c2:Chg (fun k=>nv.ownBlock=some k) w1 W'):WkM Pb bw bm (N.set i {x with wv:=v',bn:={x.bn with wants:=x.bn.wants++ [d]}}) [] fl nv (.slice none 0 0) W':=by
 have hxm:=List.mem_of_getElem? hx
 have hel:=g.nd.el x hxm
 have b1:=g.b.chg c1 fun e=>hel.pR g.b rfl e rfl
 have m1:=g.mp.chg c1 fun e=>hel.qQ g.mp e rfl
 have hrow:=g.nd.row.chg (mV nbC) c1 fun k hk e=>g.nd.xY x hxm k e hk
 refine ⟨b1.chg c2 fun e=>hrow.pR b1 rfl e rfl,g.nd.set hx ho c1 lie hr c2,bK,m1.chg c2 fun e=>hrow.qQ m1 e rfl,fun y hy k e1 e2=>(by cases e2),fun y hy k hk=>?_,by rw [List.length_set];exact g.nl,⟨g.fn.1,fun y hy=>?_⟩,g.lo2⟩
 ·rw [List.length_set]
  rcases List.mem_or_eq_of_mem_set hy with hy|rfl
  ·exact g.win y hy k hk
  ·rcases List.mem_append.1 hk with hk|hk
   ·exact g.win x hxm k hk
   ·rw [List.mem_singleton.1 hk];exact hd
 ·rcases List.mem_or_eq_of_mem_set hy with hy|rfl
  ·exact g.fn.2 y hy
  ·exact g.fn.2 x hxm
theorem WkM.Y6 (g:WkM Pb bw bm N [] fl nv (.slice none 0 0) W) {i:Nat} {x y:Nb} (hx:N[i]? =some x) (hw:y.wv=x.wv) (hn:y.bn.wants=x.bn.wants) (hp:y.bn.path=x.bn.path) (hr:ny (flat nbC) 118 9 Pb NoB W' nv (N.set i y)) (c:Chg (fun k=>nv.ownBlock=some k) W W'):WkM Pb bw bm (N.set i y) [] fl nv (.slice none 0 0) W':=by
 have hxm:=List.mem_of_getElem? hx
 refine ⟨g.b.chg c fun e=>g.nd.row.pR g.b rfl e rfl,g.nd.put hx (by rw [hw]) hn hr c,bK,g.mp.chg c fun e=>g.nd.row.qQ g.mp e rfl,fun z hz k e1 e2=>(by cases e2),fun z hz k hk=>?_,by rw [List.length_set];exact g.nl,⟨g.fn.1,fun z hz=>?_⟩,g.lo2⟩
 ·rw [List.length_set]
  rcases List.mem_or_eq_of_mem_set hz with hz|rfl
  ·exact g.win z hz k hk
  ·rw [hn] at hk;exact g.win x hxm k hk
 ·rcases List.mem_or_eq_of_mem_set hz with hz|rfl
  ·exact g.fn.2 z hz
  ·rw [hp];exact g.fn.2 x hxm
end
structure JdE (bw b2 b3 b4:Nat) (mb:List Nat) (ff:Nat→Nat→Option Int) (tv cv fv gv:Value) (W:World):Prop where
 h2:Bk W b2 42 [pT bw]
 h3:Bk W b3 27 [tv,cv,fv,gv]
 h4:Bk W b4 188 (mb.map fun b=>.map (some b))
 im: ∀(r b:Nat),mb[r]? =some b→ImL W b (ff r)
 ml:mb.length=7
 nd:mb.Nodup
section
variable {bw b2 b3 b4:Nat} {mb:List Nat} {ff:Nat→Nat→Option Int} {tv cv fv gv:Value} {W W':World} {M:Nat→Prop}
theorem JdE.chg (e:JdE bw b2 b3 b4 mb ff tv cv fv gv W) (c:Chg M W W') (n2: ¬M b2) (n3: ¬M b3) (n4: ¬M b4) (nm: ∀b∈mb, ¬M b):JdE bw b2 b3 b4 mb ff tv cv fv gv W':=
 ⟨e.h2.chg c n2,e.h3.chg c n3,e.h4.chg c n4,fun r b h=>(e.im r b h).chg c (nm b (List.mem_of_getElem? h)),e.ml,e.nd⟩
theorem JdE.new (e:JdE bw b2 b3 b4 mb ff tv cv fv gv W) (c:New W W'):JdE bw b2 b3 b4 mb ff tv cv fv gv W':=e.chg c (fun e=>e) (fun e=>e) (fun e=>e) (fun _ _ e=>e)
theorem ImL.ml {b:Nat} {f:Nat→Option Int} (h:ImL W b f): ∃l,qO Tryz.prog 3 W b l:=by obtain ⟨L,_,h,_⟩:=h;exact ⟨_,h⟩
theorem JdE.own (e:JdE bw b2 b3 b4 mb ff tv cv fv gv W) {α:Type} {R:Rel α} {ty:TypeId} {sz:Nat} {Pb Pe:Nat→Prop} {v:Value} {xs:List α} (o:ny R ty sz Pb Pe W v xs) (c:Chg (fun k=>v.ownBlock=some k) W W') (n2:Nat.beq ty 42=false) (n3:Nat.beq ty 27=false) (n4:Nat.beq ty 188=false):JdE bw b2 b3 b4 mb ff tv cv fv gv W':=
 e.chg c (fun h=>o.pR e.h2 n2 h rfl) (fun h=>o.pR e.h3 n3 h rfl) (fun h=>o.pR e.h4 n4 h rfl) fun b hb h=>by
  obtain ⟨r,hr⟩:=List.mem_iff_getElem?.1 hb
  obtain ⟨l,hl⟩:=(e.im r b hr).ml
  exact o.qQ hl h rfl
theorem JdE.put (e:JdE bw b2 b3 b4 mb ff tv cv fv gv W) {r b:Nat} {f:Nat→Option Int} (hr:mb[r]? =some b) (h:ImL W' b f) (c:Chg (fun k=>k=b) W W'):JdE bw b2 b3 b4 mb (fun s=>if s=r then f else ff s) tv cv fv gv W':=by
 obtain ⟨l,hl⟩:=(e.im r b hr).ml
 refine ⟨e.h2.chg c fun q=>e.h2.qQ hl q,e.h3.chg c fun q=>e.h3.qQ hl q,e.h4.chg c fun q=>e.h4.qQ hl q,fun s d hs=>?_,e.ml,e.nd⟩
 by_cases hsr:s=r
 ·subst hsr
  rw [if_pos rfl]
  rw [hr] at hs
  cases hs
  exact h
 ·rw [if_neg hsr]
  refine (e.im s d hs).chg c fun q=>?_
  subst q
  refine hsr ?_
  exact (List.getElem?_inj (by have:=(List.getElem?_eq_some_iff.1 hs).1;exact this) e.nd).1 (hs.trans hr.symm)
end
end Go.Proofs.YtjecgaiaiophpaaGreatDoor
namespace Go.Proofs.YtjecgaiaiophpaaGreatDoor
open Go Wk
open Go.RowKit (Below)
attribute [local irreducible] Go.Calls
abbrev Jd:=Nat×FuncId×List Value
abbrev jdC (e:Jd):List Value:=[.int .u8 e.1,.func (.func e.2.1) #[] e.2.2.toArray]
theorem Uj:qG (flat jdC) 2:=qH _ (fun _=>rfl) fun e c hc=>by
 simp at hc
 rcases hc with rfl|rfl<;>rfl
def jdL (b2 b3 b4 q1 q2 q3 q6:Nat):List Jd:=[(2,102,[pT b2]),(3,101,[pT b4,pT q1,pT b2]),(4,101,[pT b4,pT q2,pT b2]),(5,101,[pT b4,pT q3,pT b2]),(6,103,[pT q6,pT b2,pT b3])]
structure JdF (G:Giv) (lo bw b2 b3 b4 q1 q2 q3 q6 gm:Nat) (mb:List Nat) (Lg:List (Nm×Int)) (tv cv fv gv:Value) (W:World):Prop where
 e:JdE bw b2 b3 b4 mb (fun s=>if s=3 then Gq (qC G.cards G.tree).2 else if s=4 then uG G.tree (nY G.tree) else if s=5 then xk (rV G.tree) else fun _=>none) tv cv fv gv W
 h1:Bk W q1 5 [.int .u8 (3:Nat)]
 h2:Bk W q2 5 [.int .u8 (4:Nat)]
 h3:Bk W q3 5 [.int .u8 (5:Nat)]
 h6:Bk W q6 104 [.map (some gm)]
 mp:qO Tryz.prog 9 W gm (GX Lg)
 tr:RdS rNd 3 (fun b=>b<lo) W tv G.tree
section
variable {G:Giv} {lo bw b2 b3 b4 q1 q2 q3 q6 gm:Nat} {mb:List Nat} {Lg:List (Nm×Int)} {tv cv fv gv:Value} {W W':World}
theorem JdF.new (h:JdF G lo bw b2 b3 b4 q1 q2 q3 q6 gm mb Lg tv cv fv gv W) (c:New W W'):JdF G lo bw b2 b3 b4 q1 q2 q3 q6 gm mb Lg tv cv fv gv W':=
 ⟨h.e.new c,h.h1.chg c fun e=>e,h.h2.chg c fun e=>e,h.h3.chg c fun e=>e,h.h6.chg c fun e=>e,h.mp.chg c fun e=>e,h.tr.keep nO c.keep⟩
theorem JdF.row (h:JdF G lo bw b2 b3 b4 q1 q2 q3 q6 gm mb Lg tv cv fv gv W) {Pb:Nat→Prop} {v:Value} {xs:List Nb} (o:ny (flat nbC) 118 9 Pb NoB W v xs) (hlo: ∀k,v.ownBlock=some k→lo≤k) (c:Chg (fun k=>v.ownBlock=some k) W W'):JdF G lo bw b2 b3 b4 q1 q2 q3 q6 gm mb Lg tv cv fv gv W':=
 ⟨h.e.own o c rfl rfl rfl,h.h1.chg c fun e=>o.pR h.h1 rfl e rfl,h.h2.chg c fun e=>o.pR h.h2 rfl e rfl,h.h3.chg c fun e=>o.pR h.h3 rfl e rfl,h.h6.chg c fun e=>o.pR h.h6 rfl e rfl,h.mp.chg c fun e=>o.qQ h.mp e rfl,
   h.tr.keep nO (c.keep fun b _ hb e=>by have:=hlo b e;have hb:b<lo:=hb;omega)⟩
theorem Og {m:Nat} {e:Jd} (h:(jdL b2 b3 b4 q1 q2 q3 q6)[m]? =some e):mX Tryz.prog e.2.1:=by
 unfold jdL at h
 match m with
 |0=>cases h;infer_instance
 |1=>cases h;infer_instance
 |2=>cases h;infer_instance
 |3=>cases h;infer_instance
 |4=>cases h;infer_instance
 |n+5=>cases h
theorem Vw {Pb:Nat→Prop} {bm:Nat} {N:List Nb} {ord:List Nat} {fl:List (Nm×Int)} {nv ov:Value} {m k:Nat} {e:Jd} (h:JdF G lo bw b2 b3 b4 q1 q2 q3 q6 gm mb Lg tv cv fv gv W) (g:WkM Pb bw bm N ord fl nv ov W) (cn:Cnt G.gone Lg) (hok:nV G.tree=true) (hN:N.length=G.tree.length)
 (hp: ∀i,i<N.length→(bnF N i).path=oz G.tree i∧(bnF N i).device=qF G.tree i∧(bnF N i).card=if qF G.tree i=true then qI G.cards G.tree i else none) (hk:k<N.length) (he:(jdL b2 b3 b4 q1 q2 q3 q6)[m]? =some e):
 e.1=m+2∧Calls Tryz.prog e.2.1 (vi k::e.2.2).toArray W (Ret fun v w'=>(∃y,v=.tuple #[.bool (zh G k m).isSome,vi y]∧ ∀u,zh G k m=some u→y=u)∧New W w'):=by
 obtain ⟨p1,p2,p3⟩:=hp k hk
 have am: ∀(q r:Nat),Bk W q 5 [.int .u8 r]→r<7→ ∀(o:Option Int),(if qF G.tree k=true then (if r=3 then Gq (qC G.cards G.tree).2 else if r=4 then uG G.tree (nY G.tree) else if r=5 then xk (rV G.tree) else fun _=>none) k else none)=o→
  Calls Tryz.prog 101 #[vi k,pT b4,pT q,pT b2] W (Ret fun v w'=>(∃y,v=.tuple #[.bool o.isSome,vi y]∧ ∀u,o=some u→y=u)∧New W w'):=by
  intro q r hq hr o ho
  obtain ⟨mr,hm⟩:=nN mb (k:=r) (by rw [h.e.ml];exact hr)
  refine (Jz (m:=mr) (r:=r) g h.e.h2 h.e.h4 hq hr (by rw [List.getElem?_map,hm];rfl) (h.e.im r mr hm) hk).mono ?_
  rintro _ w' ⟨_,rfl,rfl,rfl⟩
  refine ⟨_,rfl,⟨((if r=3 then Gq (qC G.cards G.tree).2 else if r=4 then uG G.tree (nY G.tree) else if r=5 then xk (rV G.tree) else fun _=>none) k).getD 0,?_,fun u hu=>?_⟩,aV _ _⟩
  ·rw [p2, ←ho]
   cases qF G.tree k with
   |false=>simp
   |true=>simp
  ·rw [←ho] at hu
   split at hu
   ·rw [hu];rfl
   ·cases hu
 unfold jdL at he
 match m with
 |0=>
  cases he
  refine ⟨rfl,(LJ g h.e.h2 hk).mono ?_⟩
  rintro _ w' ⟨_,rfl,rfl,rfl⟩
  refine ⟨_,rfl,⟨-1,?_,fun u hu=>?_⟩,aV _ _⟩
  ·rw [p2,p3]
   unfold zh
   cases qF G.tree k with
   |false=>simp
   |true=>cases qI G.cards G.tree k<;>simp
  ·have hu:(if qF G.tree k=true∧qI G.cards G.tree k=none then some (-1) else none)=some u:=hu
   split at hu
   ·cases hu;rfl
   ·cases hu
 |1=>cases he;exact ⟨rfl,am q1 3 h.h1 (by omega) _ rfl⟩
 |2=>cases he;exact ⟨rfl,am q2 4 h.h2 (by omega) _ rfl⟩
 |3=>cases he;exact ⟨rfl,am q3 5 h.h3 (by omega) _ rfl⟩
 |4=>
  cases he
  refine ⟨rfl,(LK g h.h6 h.e.h2 h.e.h3 h.tr h.mp cn hok hN (fun i hi=>(hp i hi).1) hk).mono ?_⟩
  rintro _ w' ⟨_,rfl,rfl,n⟩
  refine ⟨_,rfl,⟨qw (sG G k),?_,fun u hu=>?_⟩,n⟩
  ·unfold zh
   cases sG G k<;>rfl
  ·have hu:(sG G k).map (fun k=>(k:Int))=some u:=hu
   cases hg:sG G k with
   |none=>rw [hg] at hu;cases hu
   |some j=>rw [hg] at hu;cases hu;rfl
 |n+5=>cases he
end
end Go.Proofs.YtjecgaiaiophpaaGreatDoor
namespace Go.Proofs.YtjecgaiaiophpaaGreatDoor
open Go Wk
open Go.RowKit (Below)
attribute [local irreducible] Go.Calls
abbrev mpV (b:Nat):Value:=.map (some b)
theorem Vx {L:List Nat} {m b:Nat} (hL:L.length<m):(L.map mpV++List.replicate (m-L.length) (Value.map none)).set L.length (mpV b)=(L++ [b]).map mpV++List.replicate (m-(L++ [b]).length) (Value.map none):=by
 obtain ⟨k,hk⟩: ∃k,m-L.length=k+1:=⟨m-L.length-1,by omega⟩
 rw [hk,List.replicate_succ,List.set_append_right _ _ (by simp)]
 simp only [List.length_map,Nat.sub_self,List.set_cons_zero,List.map_append,List.map_cons,List.map_nil,List.append_assoc,List.singleton_append,List.length_append,List.length_singleton]
 congr 3
 omega
theorem xq {W:Nat→List Nat} {order:List Nat}: ∀(l seen:List Nat),(rF W order seen l).length≤l.length∧ ∀c∈rF W order seen l, ∀i∈c,i∈order
 | [],seen=>by rw [rF];simp
 |i::r,seen=>by
  rw [Dh]
  split
  ·obtain ⟨h1,h2⟩:=xq (W:=W) (order:=order) r seen
   exact ⟨by rw [List.length_cons];omega,h2⟩
  ·obtain ⟨h1,h2⟩:=xq (W:=W) (order:=order) r (seen++order.filter (qp W i))
   refine ⟨by rw [List.length_cons,List.length_cons];omega,fun c hc k hk=>?_⟩
   rcases List.mem_cons.1 hc with rfl|hc
   ·exact (List.mem_filter.1 hk).1
   ·exact h2 c hc k hk
theorem yu {t:List Nd}: ∀(l:List Nat) (out:List Bj),(tC t out l).2.length≤l.length∧ ∀r∈(tC t out l).2,r.node∈l
 | [],out=>by rw [tC];simp
 |n::r,out=>by
  rw [tC]
  split
  ·obtain ⟨h1,h2⟩:=yu (t:=t) r out
   refine ⟨by simp only [List.length_cons];omega,fun x hx=>?_⟩
   rcases List.mem_cons.1 hx with rfl|hx
   ·exact List.mem_cons_self
   ·exact List.mem_cons_of_mem _ (h2 x hx)
  ·split
   ·obtain ⟨h1,h2⟩:=yu (t:=t) r out
    refine ⟨by simp only [List.length_cons];omega,fun x hx=>?_⟩
    rcases List.mem_cons.1 hx with rfl|hx
    ·exact List.mem_cons_self
    ·exact List.mem_cons_of_mem _ (h2 x hx)
   ·have h:=yu (t:=t) r
    exact ⟨by rw [List.length_cons];exact Nat.le_succ_of_le (h _).1,fun x hx=>List.mem_cons_of_mem _ ((h _).2 x hx)⟩
theorem Oh (t:List Nd):(rV t).length≤t.length:=by
 have:=(xq (W:=pM t) (order:=oM t) (oM t) []).1
 unfold rV
 refine Nat.le_trans this ?_
 unfold oM
 rw [List.length_mergeSort,List.length_range]
 exact Nat.le_refl _
theorem Q5 {t:List Nd}: ∀c∈rV t, ∀i∈c,i<t.length:=fun c hc i hi=>BJ.1 ((xq (W:=pM t) (order:=oM t) (oM t) []).2 c hc i hi)
noncomputable def yZ (G:Giv) (k m i:Nat):Bn:=if i<G.tree.length then (if i<k then yt G 5 i else if i=k then yt G m i else yt G 0 i) else default
theorem Q7 (G:Giv):yZ G 0 0=wL G (nY G.tree):=by
 funext i
 unfold yZ wL
 split
 ·rw [if_neg (by omega)]
  split<;>exact Oe G i
 ·rfl
theorem Q8 (G:Giv) (k:Nat):yZ G k 5=yZ G (k+1) 0:=by
 funext i
 unfold yZ
 split
 ·by_cases h1:i<k
  ·rw [if_pos h1,if_pos (by omega)]
  ·rw [if_neg h1]
   by_cases h2:i=k
   ·rw [if_pos h2,if_pos (by omega)]
   ·rw [if_neg h2,if_neg (by omega)]
    split<;>rfl
 ·rfl
theorem Uk (G:Giv):yZ G G.tree.length 0=nX G:=by
 funext i
 unfold yZ nX
 split
 ·exact QZ G i
 ·rfl
theorem Ul (G:Giv) (k m:Nat) {i:Nat} (h:i<G.tree.length):(yZ G k m i).path=oz G.tree i∧(yZ G k m i).device=qF G.tree i∧(yZ G k m i).card=if qF G.tree i=true then qI G.cards G.tree i else none:=by
 unfold yZ
 rw [if_pos h]
 split
 ·exact ⟨rfl,rfl,rfl⟩
 split<;>exact ⟨rfl,rfl,rfl⟩
theorem Py (G:Giv) {k m:Nat} (h:k<G.tree.length):yZ G k m k=yt G m k:=by
 unfold yZ
 rw [if_pos h,if_neg (by omega),if_pos rfl]
theorem Iu (G:Giv) {k m:Nat} (h:k<G.tree.length):yZ G k (m+1)=fun i=>if i=k then yt G (m+1) k else yZ G k m i:=by
 funext i
 unfold yZ
 by_cases hi:i=k
 ·subst hi;rw [if_pos h,if_neg (by omega),if_pos rfl,if_pos rfl]
 ·rw [if_neg hi,if_neg hi,if_neg hi]
theorem Oi {G:Giv} {k m:Nat} (h:Ac (BM G k m) (m+2) (zh G k m)=BM G k m):yt G (m+1) k=yt G m k:=by
 unfold yt
 rw [show BM G k (m+1)=Ac (BM G k m) (m+2) (zh G k m) from rfl,h]
section
variable {w:World} {G:Giv} {lo bw bm:Nat} {N:List Nb} {fl:List (Nm×Int)} {nv tv cv fv gv:Value}
theorem Oj {Pb:Nat→Prop} (hlo: ∀b,Pb b→lo≤b) (hbig: ∀b,w.heap.size≤b→Pb b) (hok:nV G.tree=true) (hco:sK G.cards=true) (hgl: ∀x∈G.gone,x.length≤100000000) (r:RdG (fun b=>b<lo) w G tv cv fv gv) (g:WkM Pb bw bm N [] fl nv (.slice none 0 0) w) (hN:N.length=G.tree.length) (hb:bnF N=wL G []) (hst: ∀k,stF N k=0):
 Calls Tryz.prog 47 #[pT bw,.agg #[tv,cv,fv,gv]] w (Ret fun _ w'=> ∃N',WkM Pb bw bm N' [] fl nv (.slice none 0 0) w'∧N'.length=G.tree.length∧bnF N'=nX G∧(∀k,stF N' k=0)∧Chg Pb w w'):=by
 have hlen:=oN hok
 have hpos:=tY hok
 have hlw:lo≤w.heap.size:=hlo _ (hbig _ (Nat.le_refl _))
 have hE:(nY G.tree).length≤10240*G.tree.length:=uY hok G.tree.length (Nat.le_refl _)
 obtain ⟨ta,tc,rfl,_,_⟩:=r.t.form
 obtain ⟨ca,cc,rfl,_,_⟩:=r.c.form
 obtain ⟨fa,fc,rfl,_,_⟩:=r.f.form
 obtain ⟨ga,gc,rfl,_,_⟩:=r.g.form
 obtain ⟨ng,nc,rfl,adP,adQ,adR⟩:=g.nd.row.blk (by intro e;rw [e] at hN;simp at hN;omega)
 refine mQ Tryz.func47 rfl Tryz.ntmps47 rfl ?_
 (repeat' (first|refine aj ?_|refine ai ?_))
 refine bJ rfl fun w1 b2 n1 s1=>?_
 replace b2:Bk w1 w.heap.size 42 [pT bw]:=b2
 refine bJ rfl fun w2 b3 n2 s2=>?_
 replace b3:Bk w2 w1.heap.size 27 [.slice ta G.tree.length tc,.slice ca G.cards.length cc,.slice fa G.fails.length fc,.slice ga G.gone.length gc]:=b3
 (repeat' (first|refine af ?_|refine ah ?_|refine aj ?_|refine ai ?_))
 refine Wl.alloc fun w3 b4 n3 s3=>?_
 replace b4:Bk w3 w2.heap.size 188 (List.map mpV []++List.replicate 7 (.map none)):=b4
 have n03:=New.trans n1 (New.trans n2 n3)
 have hz1:=n1.size
 have hz2:=n2.size
 have hz3:=n3.size
 replace b2:=b2.chg (New.trans n2 n3) fun e=>e
 replace b3:=b3.chg n3 fun e=>e
 have adT:=b2.lt
 have adU:=b3.lt
 have adS:=b4.lt
 replace g:=(g.mono (Pb':=fun b=>Pb b∧b<w.heap.size) fun b hb e=>⟨e,hb⟩).new n03
 (repeat' (first|refine aa0 ?_|refine af ?_|refine ah ?_|refine aj ?_|refine ai ?_|refine Wc.block ?_))
 refine aU (σ:=List Nat) (fun L=>[(2,pT w.heap.size),(3,pT w1.heap.size),(4,pT w2.heap.size),(31,vi L.length)])
  (fun L W=>L.length≤7∧Bk W w2.heap.size 188 (L.map mpV++List.replicate (7-L.length) (.map none))∧(∀b∈L,w3.heap.size≤b∧qO Tryz.prog 3 W b [])∧L.Nodup∧Chg (fun k=>k=w2.heap.size) w3 W) (fun L=>7-L.length) [] ⟨rfl,rfl,rfl,rfl,trivial⟩ ⟨by simp,b4,by simp,List.nodup_nil,aV _ _⟩ ?_
 clear b4
 rintro L F W ⟨hL,b4,hm,hnd,cW⟩
 simp only [oO]
 (repeat' (first|refine aa0 ?_|refine aa1 ?_|refine af ?_|refine ah ?_|refine aj ?_|refine ai ?_|refine Wc.block ?_|refine Wc.skip ?_|refine aQ ?_|refine aS ?_|refine aP ?_|refine aT ?_|refine aa3 ?_|refine aa4 ?_|refine aa5 ?_|refine aa9 (fun _=>?_) (fun _=>?_)))
 ·refine fV (k:=3) fun w4 m4 n4 s4=>?_
  refine gY rfl rfl (by omega) (by omega) ?_
  have hWs:=cW.size
  refine bH (u:=mpV W.heap.size) (b4.chg n4 fun e=>e) rfl (show ((L.length:Nat):Int).toNat<(L.map mpV++List.replicate (7-L.length) (Value.map none)).length by simp only [List.length_append,List.length_map,List.length_replicate];omega) rfl rfl fun w5 b5 c5=>?_
  rw [Int.toNat_natCast,Vx (m:=7) (by omega)] at b5
  (repeat' (first|refine aa0 ?_|refine af ?_|refine ah ?_|refine ai ?_|refine aJ ?_|refine aa7 ?_))
  refine aK (L++ [W.heap.size]) ⟨rfl,rfl,rfl,by rw [List.length_append,List.length_singleton];rfl,trivial⟩ ⟨by rw [List.length_append,List.length_singleton];omega,b5,fun b hb=>?_,?_,Chg.trans (Chg.trans cW n4.any fun _ _ e=>e) c5 fun _ _ e=>e⟩ (by rw [List.length_append,List.length_singleton];omega)
  ·rcases List.mem_append.1 hb with hb|hb
   ·exact ⟨(hm b hb).1,((hm b hb).2.chg n4 fun e=>e).chg c5 fun e=>by have:=(hm b hb).1;omega⟩
   ·rw [List.mem_singleton.1 hb]
    exact ⟨hWs,m4.chg c5 fun e=>by omega⟩
  ·rw [List.nodup_append]
   refine ⟨hnd,by simp,fun a ha b hb e=>?_⟩
   rw [List.mem_singleton.1 hb] at e
   have:=(hm a ha).2.lt
   omega
 ·have hL7:L.length=7:=by omega
  rw [hL7,Nat.sub_self,List.replicate_zero,List.append_nil] at b4
  have hWs:=cW.size
  have e0:JdE bw w.heap.size w1.heap.size w2.heap.size L (fun _ _=>none) (.slice ta G.tree.length tc) (.slice ca G.cards.length cc) (.slice fa G.fails.length fc) (.slice ga G.gone.length gc) W:=
   ⟨b2.chg cW fun e=>by omega,b3.chg cW fun e=>by omega,b4,fun s d h=>ImL.adX (hm d (List.mem_of_getElem? h)).2,hL7,hnd⟩
  replace g:=g.chg (M:=fun k=>k=w2.heap.size) cW (fun k hk e=>by have:=hk.2;omega)
  have hLr: ∀b∈L,w.heap.size≤b∧b<W.heap.size:=fun b hb=>⟨by have:=(hm b hb).1;omega,(hm b hb).2.lt⟩
  clear b2 b3 b4 hm hnd
  have cW0:Chg (fun k=>w.heap.size≤k) w W:=Chg.trans n03.any cW fun k _ e=>by omega
  have agy:w3.heap.size≤W.heap.size:=hWs
  clear cW n03 n1 n2 n3
  generalize hb2:w.heap.size=b2 at*
  generalize hb3:w1.heap.size=b3 at*
  generalize hb4:w2.heap.size=b4 at*
  skip
  refine au (u:=.slice ta G.tree.length tc) rfl (e0.h3.cell (o:=0) rfl) ?_
  skip
  refine ay (NP (r.t.keep nO (cW0.keep fun b _ hb=>by have hb:b<lo:=hb;omega)) hok) rfl ?_
  rintro _ wB ⟨⟨q,rfl,hq⟩,nB⟩
  obtain ⟨qa,qc,rfl,_,_⟩:=hq.form
  have hzB:=nB.size
  replace hq:=hq.mono (Pb':=fun b=>W.heap.size≤b∧b<wB.heap.size) qB fun b hb e=>⟨e,hb⟩
  replace g:=(g.mono (Pb':=fun b=>Pb b∧ ¬(b2≤b∧b<wB.heap.size)) fun b hb e=>⟨e.1,by omega⟩).new nB
  have eB:=e0.new nB
  have cB:=Chg.trans cW0 nB.any (M':=fun _=>False) fun _ _ e=>e.elim
  clear e0 cW0 nB
  (repeat' (first|refine aa0 ?_|refine aa1 ?_|refine af ?_|refine aa8 ?_|refine aO rfl ?_|refine ah ?_|refine aj ?_|refine ai ?_|refine Wc.block ?_))
  refine aU (σ:=Nat×List Nb×(Nat→Nat→Option Int)) (fun q=>[(2,pT b2),(3,pT b3),(4,pT b4),(44,.slice qa (nY G.tree).length qc),(45,vi (nY G.tree).length),(46,vi q.1)])
   (fun q W'=>q.1≤(nY G.tree).length∧WkM (fun b=>Pb b∧ ¬(b2≤b∧b<wB.heap.size)) bw bm q.2.1 [] fl (.slice (some ⟨ng,0,none⟩) N.length nc) (.slice none 0 0) W'∧q.2.1.length=N.length∧bnF q.2.1=wL G ((nY G.tree).take q.1)∧(∀k,stF q.2.1 k=0)∧JdE bw b2 b3 b4 L q.2.2 (.slice ta G.tree.length tc) (.slice ca G.cards.length cc) (.slice fa G.fails.length fc) (.slice ga G.gone.length gc) W'∧q.2.2=(fun s=>if s=4 then uG G.tree ((nY G.tree).take q.1) else fun _=>none)∧RdS rEd 6 (fun b=>W.heap.size≤b∧b<wB.heap.size) W' (.slice qa (nY G.tree).length qc) (nY G.tree)∧wB.heap.size≤W'.heap.size∧Chg Pb w W') (fun q=>(nY G.tree).length-q.1)
   (0,N,fun _ _=>none) ⟨rfl,rfl,rfl,rfl,rfl,rfl,trivial⟩ ⟨Nat.zero_le _,g,rfl,hb,hst,eB,by funext s i;split<;>rfl,hq,Nat.le_refl _,cB.mono fun k _ e=>hbig k e⟩ ?_
  clear g hb hst eB hq cB
  rintro ⟨k,N1,ff⟩ F1 W1 ⟨hk,g,hN1,hb,hst,e1,hff,hq,Xu,c1⟩
  dsimp only at hk g hN1 hb hst e1 hff hq Xu c1
  simp only [oO]
  (repeat' (first|refine af ?_|refine ah ?_|refine aj ?_|refine ai ?_|refine Wc.block ?_|refine Wc.skip ?_|refine aQ ?_|refine aS ?_|refine aP ?_|refine aT ?_|refine aa3 ?_|refine aa4 ?_|refine aa5 ?_|refine aa9 (fun _=>?_) (fun _=>?_)))
  ·obtain ⟨x,hx⟩:=nN (nY G.tree) (k:=k) (by omega)
   have hxs:=(vV x (List.mem_of_getElem? hx)).1
   have hxd:=(vV x (List.mem_of_getElem? hx)).2
   refine bD hq rfl rfl (by omega) (by rw [Int.toNat_natCast];exact hx) fun b o cs hl hR hat=>?_
   obtain ⟨va,rfl,hva⟩:=hR
   obtain ⟨xa,xc,rfl,_,_⟩:=hva.form
   refine bQ hat rfl rfl ?_
   clear hat
   refine Wl.alloc fun w5 b5 n5 s5=>?_
   skip
   refine aX (new:=edC x (.slice xa x.args.length xc)) b5 rfl rfl rfl rfl (show (6:Nat)≤6 from Nat.le_refl 6) Qo fun w6 b6 c6 s6=>?_
   have n6:New W1 w6:=(Chg.trans n5.any c6 fun _ _ e=>e).toNew fun k hk e=>by omega
   replace b6:Bk w6 W1.heap.size 150 (edC x (.slice xa x.args.length xc)):=b6
   clear b5 n5 c6
   obtain ⟨y,hy⟩:=nN N1 (k:=x.src) (by omega)
   have hyb:=rJ hy
   have g6:=g.new n6
   have e6:=e1.new n6
   have hq6:=hq.keep rP n6.keep
   have c06:=Chg.trans c1 n6.any (M':=fun _=>False) fun _ _ e=>e.elim
   clear g e1 hq c1
   (repeat' (first|refine af ?_|refine ah ?_|refine aj ?_))
   refine fM rfl (by kernel_rfl) ?_
   skip
   refine aB (u:=pT bw) rfl (fun w' hw=>(e6.h2.chg hw fun e=>e).cell (o:=0) rfl) ?_
   (repeat' (first|refine bF rfl ?_|refine pK ?_))
   refine aB (u:=.slice (some ⟨ng,0,none⟩) N.length nc) rfl (fun w' hw=>(g6.b.chg hw fun e=>e).cell (o:=0) rfl) ?_
   (repeat' (refine pK ?_))
   refine aB (u:=vi x.src) rfl (fun w' hw=>(b6.chg hw fun e=>e).cell (o:=0) rfl) ?_
   skip
   refine rY ?_
   (repeat' (first|refine fB (by conv=>{lhs;whnf}) ?_|refine ak ?_))
   intro w7 n7
   have g7:=g6.new n7
   have e7:=e6.new n7
   have hq7:=hq6.keep rP n7.keep
   have c07:=Chg.trans c06 n7.any (M':=fun _=>False) fun _ _ e=>e.elim
   have b7:=b6.chg n7 fun e=>e
   have hz7:wB.heap.size≤w7.heap.size:=Nat.le_trans Xu (Nat.le_trans n6.size n7.size)
   clear g6 e6 hq6 c06 b6 n6 n7
   have adZ:y.bn.device=qF G.tree x.src:=by rw [←hyb,hb];unfold wL;rw [if_pos hxs];rfl
   have hnx:=Oa G ((nY G.tree).take k) x
   have hmx:=N8 G.tree ((nY G.tree).take k) x
   rw [←take_snoc hx] at hnx hmx
   have hsame:cnts G.tree x=false→wL G ((nY G.tree).take (k+1))=wL G ((nY G.tree).take k)∧uG G.tree ((nY G.tree).take (k+1))=uG G.tree ((nY G.tree).take k):=fun h=>by
    rw [hnx,hmx,h];exact ⟨if_neg fun e=>(by cases e.1),if_neg (by simp)⟩
   have hat:At w7 ng (x.src*9) (nbC y):=g7.nd.row.at rfl rfl hy
   (repeat' (first|refine ah ?_|refine aj ?_|refine ai ?_|refine Wc.block ?_|refine aa5 ?_))
   refine au (u:=.bool x.soft) rfl (b7.cell (o:=3) rfl) ?_
   cases hsf:x.soft with
   |true=>
    obtain ⟨h1,h2⟩:=hsame (by simp [cnts,hsf])
    (repeat' (first|refine aa0 ?_|refine aa1 ?_|refine af ?_|refine qi ?_|refine pG ?_|refine ah ?_|refine ai ?_|refine Wc.skip ?_|refine aJ ?_|refine aa3 ?_|refine aa7 ?_))
    exact aK (k+1,N1,ff) ⟨rfl,rfl,rfl,rfl,rfl,rfl,trivial⟩ ⟨by dsimp only;omega,g7,hN1,by rw [h1];exact hb,hst,e7,by rw [h2];exact hff,hq7,hz7,c07⟩ (by dsimp only;omega)
   |false=>
    (repeat' (first|refine aa0 ?_|refine aa6 ?_|refine bI rfl ?_|refine aa5 ?_))
    refine au (u:=.bool y.bn.device) rfl (by have:=hat.get 1 rfl;simpa using this) ?_
    rw [adZ]
    cases hdv:qF G.tree x.src with
    |false=>
     obtain ⟨h1,h2⟩:=hsame (by simp [cnts,hsf,hdv])
     (repeat' (first|refine aa0 ?_|refine aa1 ?_|refine af ?_|refine aa6 ?_|refine pq ?_|refine aZ rfl ?_|refine ah ?_|refine ai ?_|refine Wc.skip ?_|refine aJ ?_|refine aa3 ?_|refine aa7 ?_))
     exact aK (k+1,N1,ff) ⟨rfl,rfl,rfl,rfl,rfl,rfl,trivial⟩ ⟨by dsimp only;omega,g7,hN1,by rw [h1];exact hb,hst,e7,by rw [h2];exact hff,hq7,hz7,c07⟩ (by dsimp only;omega)
    |true=>
     have hct:cnts G.tree x=true:=by simp [cnts,hsf,hdv]
     rw [hct] at hnx hmx
     rw [if_pos ⟨rfl,hxs⟩] at hnx
     rw [Bool.true_and] at hmx
     clear hsame
     (repeat' (first|refine aa1 ?_|refine af ?_|refine aa6 ?_|refine pq ?_|refine aZ rfl ?_|refine ah ?_|refine aj ?_|refine ai ?_|refine aa4 ?_|refine aa5 ?_))
     refine au (u:=vi (qw x.dst)) rfl (b7.cell (o:=1) rfl) ?_
     cases hds:x.dst with
     |none=>
      rw [hds] at hnx hmx
      dsimp only at hnx
      simp only [Option.isNone_none,if_true] at hmx
      obtain ⟨m4,hm4⟩:=nN L (k:=4) (by omega)
      rw [show qw none= -1 from rfl]
      (repeat' (first|refine aa1 ?_|refine af ?_|refine ah ?_|refine ai ?_|refine aa3 ?_|(refine aa9 (fun _=>?_) (fun _=>?_)<;>(first|(exfalso;omega)|skip))))
      refine gY rfl rfl (by omega) (by omega) ?_
      skip
      refine au (u:=mpV m4) rfl (e7.h4.cell (o:=4) (by rw [List.getElem?_map,hm4];rfl)) ?_
      (repeat' (refine aa5 ?_))
      refine au (u:=vi x.src) rfl (b7.cell (o:=0) rfl) ?_
      skip
      refine iV (e7.im 4 m4 hm4) (by omega) rfl rfl rfl fun w8 m8 c8 s8=>?_
      have hmr:=hLr m4 (List.mem_of_getElem? hm4)
      (repeat' (first|refine aa0 ?_|refine af ?_|refine ah ?_|refine ai ?_|refine aJ ?_|refine aa7 ?_))
      refine aK (k+1,N1,fun s=>if s=4 then EQ (ff 4) x.src (-1) else ff s) ⟨rfl,rfl,rfl,rfl,rfl,rfl,trivial⟩ ⟨by dsimp only;omega,g7.chg c8 fun k hk e=>hk.2 (by omega),hN1,by rw [hnx];exact hb,hst,e7.put hm4 m8 c8,?_,hq7.keep rP (c8.keep fun b _ hb e=>by have:=hb.1;omega),by have:=c8.size;omega,Chg.trans c07 c8 fun k _ e=>hbig k (by omega)⟩ (by dsimp only;omega)
      dsimp only
      funext s
      by_cases hs4:s=4
      ·subst hs4;rw [if_pos rfl,if_pos rfl,hmx,hff];rfl
      ·rw [if_neg hs4,if_neg hs4,hff];exact if_neg hs4
     |some d=>
      rw [hds] at hnx hmx
      dsimp only at hnx
      rw [if_neg (by simp)] at hmx
      rw [show qw (some d)=(d:Int) from rfl]
      have hym:=List.mem_of_getElem? hy
      have hel:=g7.nd.el y hym
      have hrow:=fun (w':World) (c:Chg (fun j=>(svV y.wv).ownBlock=some j) w7 w')=>g7.nd.row.chg (mV nbC) c fun k hk e=>g7.nd.xY y hym k e hk
      have hwl:y.bn.wants.length≤1+k:=by
       rw [←hyb,hb]
       unfold wL
       rw [if_pos hxs]
       unfold wK
       dsimp only
       rw [List.length_append]
       have h1:=List.length_filterMap_le (fun e:Ed=>if e.src=x.src∧e.soft=false∧qF G.tree x.src=true then e.dst else none) ((nY G.tree).take k)
       have h2:=List.length_take_le k (nY G.tree)
       split
       ·rw [List.length_singleton];omega
       ·rw [List.length_nil];omega
      (repeat' (first|refine aa1 ?_|refine af ?_|refine ah ?_|refine aa4 ?_|(refine aa9 (fun _=>?_) (fun _=>?_)<;>(first|(exfalso;omega)|skip))))
      refine cO rfl (by kernel_rfl) (fun w'=>Chg (fun j=>(svV y.wv).ownBlock=some j) w7 w') (Chg.drew _ _) ?_
      intro w8 m8
      (repeat' (first|refine aa2 (pF (ak ?_))|refine aa2 (bF rfl (ak ?_))|refine aa2 (pK (ak ?_))))
      refine aa2 (aB (u:=svV y.wv) rfl (fun w' c=>by have:=((hrow w' c).at rfl rfl hy).get 6 rfl;simpa using this) (ak ?_))
      (repeat' (refine aa2 (pK (ak ?_))))
      refine aa2 (aB (u:=vi d) rfl (fun w' c=>(b7.chg c fun e=>hel.pR b7 rfl e rfl).cell (o:=1) (by show some (vi (qw x.dst))=_;rw [hds];rfl)) (ak ?_))
      skip
      refine bC rfl (dB (R:=Wk.one viN) (Pe:=NoB) (y:=d) qJ rfl rfl rfl rfl (by omega) (by omega) fun v6 w9 o9 n9 s9 e9=>?_)
      have m9:=New.trans m8 n9
      refine af ⟨rfl,m9.any,?_⟩
      refine bC rfl (dH (R:=Wk.one viN) qJ (hel.new (mZ _) m9) (o9.rd qJ.mo) (fun z cs hz=>hz) rfl rfl (by omega) (by simp only [maxLen,List.length_singleton];omega) (by simp only [List.length_singleton];omega) fun u' w10 o10 c10 lie _=>?_)
      have GL:Chg (fun j=>(svV y.wv).ownBlock=some j) w7 w10:=Chg.trans m9.any c10 fun _ _ e=>e
      refine af ⟨rfl,GL,?_⟩
      (repeat' (first|refine aa2 (bF rfl (ak ?_))|refine aa2 (pK (ak ?_))))
      obtain ⟨ua,uc,rfl,_,_⟩:=o10.form
      have hz9:=m9.size
      have Xe:=GL.size
      refine Wt.last rfl (fG (f:=nbC) (sz:=9) (p:=y) (q:={y with wv:=(ua,(y.bn.wants++ [d]).length,uc),bn:={y.bn with wants:=y.bn.wants++ [d]}}) (j:=x.src) (o:=6) (cap:=nc) (u:=.slice ua (y.bn.wants++ [d]).length uc) (fun _=>rfl) (show (6:Nat)<9 by omega) rfl hy rfl (hrow w10 GL) (by rw [hN1]) (by show Value.pointer (some ⟨ng,0+(x.src:Int).toNat*9+6,none⟩)=_;rw [Nat.zero_add,Int.toNat_natCast]) rfl fun w11 o11 c11=>?_)
      refine af ?_
      have TA:=c11.size
      have g11:=g7.want hy (d:=d) (by have:=hxd d hds;omega) (v':=(ua,(y.bn.wants++ [d]).length,uc)) (o10.mono (nD _) (fun b _ e=>by rcases e with e|e;exact e;exact ⟨hbig b (by omega),fun h=>by omega⟩) (fun _ _ e=>e)) GL (by rcases lie with l1|l1;exact .inl l1;exact .inr fun k hk=>by have:=l1 k hk;omega) o11 c11
      have Um:=(g7.nd.row.lt (k:=ng) rfl).1
      have e11:=(e7.own hel GL rfl rfl rfl).own (hrow w10 GL) c11 rfl rfl rfl
      (repeat' (first|refine aa0 ?_|refine af ?_|refine ah ?_|refine ai ?_|refine aJ ?_|refine aa7 ?_))
      refine aK (k+1,N1.set x.src _,ff) ⟨rfl,rfl,rfl,rfl,rfl,rfl,trivial⟩ ⟨by dsimp only;omega,g11,by dsimp only;rw [List.length_set];exact hN1,?_,JB hst (by rw [←vS hy];exact hst _),e11,by rw [hmx];exact hff,(hq7.keep rP (GL.keep fun b _ hb e=>(hel.lt e).1.2 ⟨by have:=hb.1;omega,hb.2⟩)).keep rP (c11.keep fun b _ hb e=>by have e1:ng=b:=(by cases e;rfl);have h1:=hb.1;have h2:=hb.2;have h3:=Um.2;omega),by omega,Chg.trans (Chg.trans c07 GL fun k _ e=>(hel.lt e).1.1) c11 fun k _ e=>by cases e;exact Um.1⟩ (by dsimp only;omega)
      dsimp only
      rw [JA (by omega),hnx]
      funext i
      by_cases hi:i=x.src
      ·rw [if_pos hi,if_pos hi,hi, ←hb,hyb]
      ·rw [if_neg hi,if_neg hi,hb]
  ·obtain rfl:k=(nY G.tree).length:=by omega
   rw [List.take_length] at hb hff
   clear hq
   subst hff
   skip
   refine au (u:=.slice ta G.tree.length tc) rfl (e1.h3.cell (o:=0) rfl) ?_
   skip
   refine ay (NR (r.t.keep nO (c1.keep fun b _ hb e=>by have hb:b<lo:=hb;have:=hlo b e;omega)) hok) rfl ?_
   rintro _ w2 ⟨⟨rq,rs,rfl,LR,hrs⟩,n2⟩
   obtain ⟨ra,rc,rfl,_,_⟩:=LR.row.form
   have g2:=g.new n2
   have e2:=e1.new n2
   have c2:=Chg.trans c1 n2.any (M':=fun _=>False) fun _ _ e=>e.elim
   have hz2:wB.heap.size≤w2.heap.size:=Nat.le_trans Xu n2.size
   have hrl:rs.length≤G.tree.length:=by
    have h1:=congrArg List.length hrs
    rw [List.length_map] at h1
    rw [h1]
    exact Oh G.tree
   clear g e1 c1 n2
   (repeat' (first|refine aa0 ?_|refine aa1 ?_|refine af ?_|refine aa8 ?_|refine aO rfl ?_|refine ah ?_|refine aj ?_|refine ai ?_|refine Wc.block ?_))
   refine aU (σ:=Nat×(Nat→Nat→Option Int)) (fun q=>[(2,pT b2),(3,pT b3),(4,pT b4),(93,.slice ra rs.length rc),(94,vi rs.length),(95,vi q.1)])
    (fun q W'=>q.1≤rs.length∧WkM (fun b=>Pb b∧ ¬(b2≤b∧b<wB.heap.size)) bw bm N1 [] fl (.slice (some ⟨ng,0,none⟩) N.length nc) (.slice none 0 0) W'∧JdE bw b2 b3 b4 L q.2 (.slice ta G.tree.length tc) (.slice ca G.cards.length cc) (.slice fa G.fails.length fc) (.slice ga G.gone.length gc) W'∧q.2=(fun s=>if s=4 then uG G.tree (nY G.tree) else if s=5 then xk ((rs.map (·.2)).take q.1) else fun _=>none)∧RgL W1.heap.size W' (.slice ra rs.length rc) rs∧Chg Pb w W') (fun q=>rs.length-q.1)
    (0,fun s=>if s=4 then uG G.tree (nY G.tree) else fun _=>none) ⟨rfl,rfl,rfl,rfl,rfl,rfl,trivial⟩ ⟨Nat.zero_le _,g2,e2,by funext s;dsimp only;split;rfl;split<;>rfl,LR,c2⟩ ?_
   clear g2 e2 LR c2
   rintro ⟨k,ff⟩ F2 W2 ⟨hk,g2,e2,hff,LR,c2⟩
   dsimp only at hk g2 e2 hff LR c2
   simp only [oO]
   obtain ⟨m5,hm5⟩:=nN L (k:=5) (by omega)
   have agz:=hLr m5 (List.mem_of_getElem? hm5)
   (repeat' (first|refine af ?_|refine ah ?_|refine aj ?_|refine ai ?_|refine Wc.block ?_|refine Wc.skip ?_|refine aQ ?_|refine aS ?_|refine aP ?_|refine aT ?_|refine aa3 ?_|refine aa4 ?_|refine aa5 ?_|refine aa9 (fun _=>?_) (fun _=>?_)))
   ·obtain ⟨x,hx⟩:=nN rs (k:=k) (by omega)
    have hel:=LR.el x (List.mem_of_getElem? hx)
    obtain ⟨xa,xc,hxv,hxm,ad1⟩:=hel.form
    have agA:x.2.length≤9223372036854775807:=by unfold maxLen at ad1;omega
    refine bD (LR.row.rd (nP _)) rfl rfl (by omega) (by rw [Int.toNat_natCast];exact hx) fun b o cs hl hR hat=>?_
    obtain rfl:cs=wrC x:=hR
    refine au (u:=.slice xa x.2.length xc) rfl (by rw [←hxv];exact hat.get 0 rfl) ?_
    clear hat
    (repeat' (first|refine aa0 ?_|refine aa1 ?_|refine af ?_|refine aO rfl ?_|refine ah ?_|refine aj ?_|refine ai ?_|refine Wc.block ?_))
    refine aU (σ:=Nat×(Nat→Nat→Option Int)) (fun q=>[(2,pT b2),(3,pT b3),(4,pT b4),(14,.slice xa x.2.length xc),(93,.slice ra rs.length rc),(94,vi rs.length),(95,vi k),(99,.slice xa x.2.length xc),(100,vi x.2.length),(101,vi q.1)])
     (fun q W'=>q.1≤x.2.length∧WkM (fun b=>Pb b∧ ¬(b2≤b∧b<wB.heap.size)) bw bm N1 [] fl (.slice (some ⟨ng,0,none⟩) N.length nc) (.slice none 0 0) W'∧JdE bw b2 b3 b4 L q.2 (.slice ta G.tree.length tc) (.slice ca G.cards.length cc) (.slice fa G.fails.length fc) (.slice ga G.gone.length gc) W'∧q.2=(fun s=>if s=4 then uG G.tree (nY G.tree) else if s=5 then (fun i=>if i∈x.2.take q.1 then some ((x.2.headD 0:Nat):Int) else xk ((rs.map (·.2)).take k) i) else fun _=>none)∧RgL W1.heap.size W' (.slice ra rs.length rc) rs∧Chg Pb w W') (fun q=>x.2.length-q.1)
     (0,ff) ⟨rfl,rfl,rfl,rfl,rfl,rfl,rfl,rfl,rfl,rfl,trivial⟩ ⟨Nat.zero_le _,g2,e2,by rw [hff];funext s;dsimp only;split;rfl;split;(funext i;simp);rfl,LR,c2⟩ ?_
    clear g2 e2 hff LR c2 hel
    rintro ⟨m,ff⟩ F3 W3 ⟨hm,g3,e3,hff,LR,c3⟩
    dsimp only at hm g3 e3 hff LR c3
    simp only [oO]
    (repeat' (first|refine aa0 ?_|refine af ?_|refine ah ?_|refine aj ?_|refine ai ?_|refine Wc.block ?_|refine Wc.skip ?_|refine aQ ?_|refine aS ?_|refine aJ ?_|refine aP ?_|refine aT ?_|refine aa3 ?_|refine aa4 ?_|refine aa7 ?_|refine aa9 (fun _=>?_) (fun _=>?_)))
    ·have hel:=LR.el x (List.mem_of_getElem? hx)
     rw [hxv] at hel
     obtain ⟨y,hy⟩:=nN x.2 (k:=m) (by omega)
     obtain ⟨h0,hh0⟩:=nN x.2 (k:=0) (by omega)
     have hh:x.2.headD 0=h0:=by
      cases hx2:x.2 with
      |nil=>rw [hx2] at hh0;cases hh0
      |cons a l=>rw [hx2] at hh0;cases hh0;rfl
     have hyn:y<9223372036854775808:=by
      have h1:x.2∈rV G.tree:=by rw [←hrs];exact List.mem_map.2 ⟨x,List.mem_of_getElem? hx,rfl⟩
      have:=Q5 _ h1 y (List.mem_of_getElem? hy)
      omega
     refine bY (hel.rd qJ.mo) rfl rfl (by omega) (by rw [Int.toNat_natCast];exact hy) fun b o hcell=>?_
     refine au (u:=vi y) rfl hcell ?_
     (repeat' (first|refine aa1 ?_|refine af ?_|refine ah ?_))
     refine cO rfl (by kernel_rfl) (fun w'=>New W3 w') (Chg.drew _ _) ?_
     intro w4 n4
     skip
     refine aa2 (jI rfl rfl (by omega) (by omega) (ak ?_))
     refine aa2 (aB (u:=mpV m5) rfl (fun w' c=>(e3.h4.chg c fun e=>e).cell (o:=5) (by rw [List.getElem?_map,hm5];rfl)) (ak ?_))
     (repeat' (refine aa2 (pF (ak ?_))))
     refine aa2 (dJ (hel.rd qJ.mo) (fun w' c=>c.keep) rfl rfl (by omega) hh0 fun b o hcell=>ak ?_)
     refine aa2 (aB (u:=vi h0) rfl (fun w' c=>hcell w' c) (ak ?_))
     skip
     refine Wt.last rfl (iV ((e3.new n4).im 5 m5 hm5) hyn rfl rfl rfl fun w5 i5 c5 s5=>?_)
     refine af ?_
     have hz4:=n4.size
     (repeat' (first|refine aa0 ?_|refine af ?_|refine ah ?_|refine ai ?_|refine aJ ?_|refine aa7 ?_))
     refine aK (m+1,fun s=>if s=5 then EQ (ff 5) y h0 else ff s) ⟨rfl,rfl,rfl,rfl,rfl,rfl,rfl,rfl,rfl,rfl,trivial⟩ ⟨by dsimp only;omega,(g3.new n4).chg c5 fun k hk e=>hk.2 (by omega),(e3.new n4).put hm5 i5 c5,?_,(LR.new n4).chg c5 fun b hb e=>by have hb:W1.heap.size≤b:=hb;omega,Chg.trans (Chg.trans c3 n4.any (M':=fun _=>False) fun _ _ e=>e.elim) c5 fun k _ e=>hbig k (by omega)⟩ (by dsimp only;omega)
     dsimp only
     rw [take_snoc hy,hff]
     funext s
     by_cases h5:s=5
     ·subst h5
      show EQ (fun i=>if i∈x.2.take m then some ((x.2.headD 0:Nat):Int) else xk ((rs.map (·.2)).take k) i) y h0=fun i=>if i∈x.2.take m++ [y] then some ((x.2.headD 0:Nat):Int) else xk ((rs.map (·.2)).take k) i
      funext i
      unfold EQ
      by_cases hi:i=y
      ·rw [if_pos hi,if_pos (by rw [hi];simp),hh]
      ·rw [if_neg hi]
       dsimp only
       have:i∈x.2.take m++ [y]↔i∈x.2.take m:=by simp [hi]
       by_cases h6:i∈x.2.take m
       ·rw [if_pos h6,if_pos (this.2 h6)]
       ·rw [if_neg h6,if_neg fun e=>h6 (this.1 e)]
     ·rw [if_neg h5]
      dsimp only
      rw [if_neg h5,if_neg h5]
    ·obtain rfl:m=x.2.length:=by omega
     refine aK (k+1,ff) ⟨rfl,rfl,rfl,rfl,rfl,rfl,trivial⟩ ⟨by dsimp only;omega,g3,e3,?_,LR,c3⟩ (by dsimp only;omega)
     dsimp only
     rw [hff,List.take_length,take_snoc (show (rs.map (·.2))[k]? =some x.2 by rw [List.getElem?_map,hx];rfl)]
     funext s
     split
     ·rfl
     split
     ·funext i;rw [Ob]
     ·rfl
   ·obtain rfl:k=rs.length:=by omega
    rw [List.take_of_length_le (by rw [List.length_map];exact Nat.le_refl _),hrs] at hff
    clear LR hrs
    subst hff
    skip
    refine au (u:=.slice ca G.cards.length cc) rfl (e2.h3.cell (o:=1) rfl) ?_
    (repeat' (refine aa5 ?_))
    refine au (u:=.slice ta G.tree.length tc) rfl (e2.h3.cell (o:=0) rfl) ?_
    skip
    have kp2:Keep (fun b=>b<lo) w W2:=c2.keep fun b _ hb e=>by have hb:b<lo:=hb;have:=hlo b e;omega
    refine ay (Lc (r.c.keep qx kp2) (r.t.keep nO kp2) hco hok) rfl ?_
    rintro _ w3 ⟨⟨dv,uv,rfl,_,ou⟩,n3⟩
    obtain ⟨ua,uc,rfl,_,_⟩:=ou.form
    have g3:=g2.new n3
    have e3:=e2.new n3
    have c3:=Chg.trans c2 n3.any (M':=fun _=>False) fun _ _ e=>e.elim
    clear g2 e2 c2 kp2 n3
    have hul:(qC G.cards G.tree).2.length≤G.tree.length:=Nat.le_trans (yu (Ci G.cards G.tree) []).1 (Ih _ _)
    (repeat' (first|refine aa0 ?_|refine aa1 ?_|refine af ?_|refine aa8 ?_|refine aO rfl ?_|refine ah ?_|refine aj ?_|refine ai ?_|refine Wc.block ?_))
    refine aU (σ:=Nat×(Nat→Nat→Option Int)) (fun q=>[(2,pT b2),(3,pT b3),(4,pT b4),(122,.slice ua (qC G.cards G.tree).2.length uc),(123,vi (qC G.cards G.tree).2.length),(124,vi q.1)])
     (fun q W'=>q.1≤(qC G.cards G.tree).2.length∧WkM (fun b=>Pb b∧ ¬(b2≤b∧b<wB.heap.size)) bw bm N1 [] fl (.slice (some ⟨ng,0,none⟩) N.length nc) (.slice none 0 0) W'∧JdE bw b2 b3 b4 L q.2 (.slice ta G.tree.length tc) (.slice ca G.cards.length cc) (.slice fa G.fails.length fc) (.slice ga G.gone.length gc) W'∧q.2=(fun s=>if s=3 then Gq ((qC G.cards G.tree).2.take q.1) else if s=4 then uG G.tree (nY G.tree) else if s=5 then xk (rV G.tree) else fun _=>none)∧ny (flat zq) 200 5 (fun b=>W2.heap.size≤b) NoB W' (.slice ua (qC G.cards G.tree).2.length uc) (qC G.cards G.tree).2∧Chg Pb w W') (fun q=>(qC G.cards G.tree).2.length-q.1)
     (0,fun s=>if s=4 then uG G.tree (nY G.tree) else if s=5 then xk (rV G.tree) else fun _=>none) ⟨rfl,rfl,rfl,rfl,rfl,rfl,trivial⟩ ⟨Nat.zero_le _,g3,e3,?_,ou,c3⟩ ?_
    ·dsimp only
     funext s
     by_cases h3:s=3
     ·subst h3;rfl
     ·rw [if_neg h3]
    clear g3 e3 ou c3
    rintro ⟨k,ff⟩ F3 W3 ⟨hk,g3,e3,hff,ou,c3⟩
    dsimp only at hk g3 e3 hff ou c3
    simp only [oO]
    (repeat' (first|refine af ?_|refine ah ?_|refine aj ?_|refine ai ?_|refine Wc.block ?_|refine Wc.skip ?_|refine aQ ?_|refine aS ?_|refine aP ?_|refine aT ?_|refine aa3 ?_|refine aa4 ?_|refine aa5 ?_|refine aa9 (fun _=>?_) (fun _=>?_)))
    ·obtain ⟨x,hx⟩:=nN (qC G.cards G.tree).2 (k:=k) (by omega)
     have hxn:x.node<9223372036854775808:=by
      have:=La _ ((yu (t:=G.tree) (Ci G.cards G.tree) []).2 x (List.mem_of_getElem? hx))
      omega
     obtain ⟨m3,hm3⟩:=nN L (k:=3) (by omega)
     have agB:=hLr m3 (List.mem_of_getElem? hm3)
     refine bD (ou.rd (nP _)) rfl rfl (by omega) (by rw [Int.toNat_natCast];exact hx) fun b o cs hl hR hat=>?_
     obtain rfl:cs=zq x:=hR
     refine bQ hat rfl rfl ?_
     clear hat
     refine Wl.alloc fun w5 b5 n5 s5=>?_
     skip
     refine aX (new:=zq x) b5 rfl rfl rfl rfl (show (5:Nat)≤5 from Nat.le_refl 5) (xf.oc (fun _=>True) w5 x (zq x) rfl rfl) fun w6 b6 c6 s6=>?_
     have n6:New W3 w6:=(Chg.trans n5.any c6 fun _ _ e=>e).toNew fun k hk e=>by omega
     replace b6:Bk w6 W3.heap.size 200 (zq x):=b6
     clear b5 n5 c6
     have hz6:=n6.size
     (repeat' (first|refine af ?_|refine ah ?_|refine ai ?_))
     refine gY rfl rfl (by omega) (by omega) ?_
     skip
     refine au (u:=mpV m3) rfl ((e3.new n6).h4.cell (o:=3) (by rw [List.getElem?_map,hm3];rfl)) ?_
     (repeat' (refine aa5 ?_))
     refine au (u:=vi x.node) rfl (b6.cell (o:=0) rfl) ?_
     (repeat' (refine aa5 ?_))
     refine au (u:=vi x.by_) rfl (b6.cell (o:=4) rfl) ?_
     skip
     refine iV ((e3.new n6).im 3 m3 hm3) hxn rfl rfl rfl fun w7 i7 c7 s7=>?_
     (repeat' (first|refine aa0 ?_|refine af ?_|refine ah ?_|refine ai ?_|refine aJ ?_|refine aa7 ?_))
     refine aK (k+1,fun s=>if s=3 then EQ (ff 3) x.node x.by_ else ff s) ⟨rfl,rfl,rfl,rfl,rfl,rfl,trivial⟩ ⟨by dsimp only;omega,(g3.new n6).chg c7 fun k hk e=>hk.2 (by omega),(e3.new n6).put hm3 i7 c7,?_,(ou.new (mV _) n6).chg (mV _) c7 fun b hb e=>by obtain ⟨l3,hl3⟩:=((e3.new n6).im 3 m3 hm3).ml;exact (ou.new (mV _) n6).qQ hl3 hb e,Chg.trans (Chg.trans c3 n6.any (M':=fun _=>False) fun _ _ e=>e.elim) c7 fun k _ e=>hbig k (by omega)⟩ (by dsimp only;omega)
     dsimp only
     rw [take_snoc hx,QX,hff]
     funext s
     by_cases h3:s=3
     ·subst h3;rfl
     ·rw [if_neg h3]
      dsimp only
      rw [if_neg h3,if_neg h3]
    ·obtain rfl:k=(qC G.cards G.tree).2.length:=by omega
     rw [List.take_length] at hff
     subst hff
     clear ou
     skip
     refine au (u:=.slice ga G.gone.length gc) rfl (e3.h3.cell (o:=3) rfl) ?_
     skip
     have kp3:Keep (fun b=>b<lo) w W3:=c3.keep fun b _ hb e=>by have hb:b<lo:=hb;have:=hlo b e;omega
     refine ay (Dk (r.g.keep (nT _) kp3) hgl) rfl ?_
     rintro _ w4 ⟨⟨gm,Lg,rfl,_,mpg,cn⟩,n4⟩
     refine Wl.alloc fun w5 b5 n5 s5=>?_
     refine bH (u:=.map (some gm)) b5 rfl (show (0:Nat)<1 by omega) rfl rfl fun w6 b6 c6=>?_
     replace b6:Bk w6 w4.heap.size 104 [.map (some gm)]:=b6
     have n46:New w4 w6:=(Chg.trans n5.any c6 fun _ _ e=>e).toNew fun k hk e=>by omega
     clear b5 n5 c6
     generalize hq6:w4.heap.size=q6 at*
     (repeat' (first|refine af ?_|refine ah ?_|refine aj ?_|refine ai ?_))
     refine dL (f1:=[]) (c1:=[pT b4,pT b2]) rfl rfl ?_
     (repeat' (first|refine aa1 ?_|refine af ?_|refine ah ?_|refine aj ?_|refine ai ?_))
     refine dL (f1:=[]) (c1:=[pT b2]) rfl rfl ?_
     refine bZ (ps:=[(0,.const (.int .u8 2)),(1,.tmp 139)]) (parts:=[(0,.int .u8 2),(1,.func (.func 102) #[] #[pT b2])]) rfl rfl (by simp [Value.cells]) ?_
     (repeat' (refine aa0 ?_))
     refine dG (f:=100) (first:= #[]) (cap:= #[pT b4,pT b2]) (vs:=[.int .u8 (3:Nat),pT b4,pT b2]) rfl (zZ (b2:=b2) (b4:=b4) (r:=3)) rfl ?_
     rintro _ w7 ⟨q1,rfl,_,bq1,n7⟩
     (repeat' (refine aa0 ?_))
     refine dG (f:=100) (first:= #[]) (cap:= #[pT b4,pT b2]) (vs:=[.int .u8 (4:Nat),pT b4,pT b2]) rfl (zZ (b2:=b2) (b4:=b4) (r:=4)) rfl ?_
     rintro _ w8 ⟨q2,rfl,_,bq2,n8⟩
     (repeat' (refine aa0 ?_))
     refine dG (f:=100) (first:= #[]) (cap:= #[pT b4,pT b2]) (vs:=[.int .u8 (5:Nat),pT b4,pT b2]) rfl (zZ (b2:=b2) (b4:=b4) (r:=5)) rfl ?_
     rintro _ w9 ⟨q3,rfl,_,bq3,n9⟩
     skip
     refine dL (f1:=[]) (c1:=[pT q6,pT b2,pT b3]) rfl rfl ?_
     refine bZ (ps:=[(0,.const (.int .u8 6)),(1,.tmp 147)]) (parts:=[(0,.int .u8 6),(1,.func (.func 103) #[] #[pT q6,pT b2,pT b3])]) rfl rfl (by simp [Value.cells]) ?_
     refine iE (R:=flat jdC) (N:=5) (ps:=[(0,.tmp 140),(1,.tmp 142),(2,.tmp 144),(3,.tmp 146),(4,.tmp 148)]) (xs:=jdL b2 b3 b4 q1 q2 q3 q6) (us:=(jdL b2 b3 b4 q1 q2 q3 q6).map fun e=>.agg (jdC e).toArray) (Pe:=NoB) Uj rfl rfl ⟨rfl,rfl,rfl,rfl,rfl,rfl,rfl,rfl,rfl,rfl,trivial⟩ (by show 0<10;omega) (by show 10≤16777216;omega) fun jv w10 oj n10 s10 agC=>?_
     have n49:=New.trans n46 (New.trans n7 (New.trans n8 n9))
     have nW:=New.trans (New.trans n4 n49) n10
     have gJ:=g3.new nW
     have eJ:JdF G lo bw b2 b3 b4 q1 q2 q3 q6 gm L Lg (.slice ta G.tree.length tc) (.slice ca G.cards.length cc) (.slice fa G.fails.length fc) (.slice ga G.gone.length gc) w10:=
      ⟨e3.new nW,bq1.chg (New.trans n8 (New.trans n9 n10)) fun e=>e,bq2.chg (New.trans n9 n10) fun e=>e,bq3.chg n10 fun e=>e,b6.chg (New.trans n7 (New.trans n8 (New.trans n9 n10))) fun e=>e,mpg.chg (New.trans n49 n10) fun e=>e,(r.t.keep nO kp3).keep nO nW.keep⟩
     have cJ:=Chg.trans c3 nW.any (M':=fun _=>False) fun _ _ e=>e.elim
     obtain ⟨ja,jc,rfl,_,_⟩:=oj.form
     clear e3 g3 c3 kp3 n4 n46 n7 n8 n9 n10 n49 nW bq1 bq2 bq3 b6 mpg
     rw [←Q7] at hb
     (repeat' (first|refine aa1 ?_|refine af ?_|refine ah ?_|refine aj ?_|refine ai ?_))
     refine au (u:=pT bw) rfl (eJ.e.h2.cell (o:=0) rfl) ?_
     (repeat' (first|refine bI rfl ?_|refine aa5 ?_))
     refine au (u:=.slice (some ⟨ng,0,none⟩) N.length nc) rfl (gJ.b.cell (o:=0) rfl) ?_
     (repeat' (first|refine aa0 ?_|refine af ?_|refine aO rfl ?_|refine ah ?_|refine Wc.block ?_))
     refine aU (σ:=Nat×List Nb) (fun q=>[(2,pT b2),(3,pT b3),(4,pT b4),(24,.slice ja 5 jc),(154,vi N.length),(155,vi q.1)])
      (fun q W'=>q.1≤N.length∧WkM (fun b=>Pb b∧ ¬(b2≤b∧b<wB.heap.size)) bw bm q.2 [] fl (.slice (some ⟨ng,0,none⟩) N.length nc) (.slice none 0 0) W'∧q.2.length=N.length∧bnF q.2=yZ G q.1 0∧(∀k,stF q.2 k=0)∧JdF G lo bw b2 b3 b4 q1 q2 q3 q6 gm L Lg (.slice ta G.tree.length tc) (.slice ca G.cards.length cc) (.slice fa G.fails.length fc) (.slice ga G.gone.length gc) W'∧ny (flat jdC) 203 2 (fun b=>b=w9.heap.size) NoB W' (.slice ja 5 jc) (jdL b2 b3 b4 q1 q2 q3 q6)∧Chg Pb w W') (fun q=>N.length-q.1)
      (0,N1) ⟨rfl,rfl,rfl,rfl,rfl,rfl,trivial⟩ ⟨Nat.zero_le _,gJ,hN1,hb,hst,eJ,oj,cJ⟩ ?_
     clear gJ hN1 hb hst eJ oj cJ
     rintro ⟨k,N2⟩ F4 W4 ⟨hk,g,hN2,hb,hst,eJ,oj,cJ⟩
     dsimp only at hk g hN2 hb hst eJ oj cJ
     simp only [oO]
     (repeat' (first|refine aa0 ?_|refine aa1 ?_|refine af ?_|refine ah ?_|refine aj ?_|refine ai ?_|refine Wc.block ?_|refine Wc.skip ?_|refine aQ ?_|refine aS ?_|refine aP ?_|refine aT ?_|refine aa3 ?_|refine aa4 ?_|refine aa9 (fun _=>?_) (fun _=>?_)))
     ·refine au (u:=pT bw) rfl (eJ.e.h2.cell (o:=0) rfl) ?_
      (repeat' (first|refine bI rfl ?_|refine aa5 ?_))
      refine au (u:=.slice (some ⟨ng,0,none⟩) N.length nc) rfl (g.b.cell (o:=0) rfl) ?_
      (repeat' (refine aa0 ?_))
      refine dQ rfl rfl (by omega) (by omega) ?_
      (repeat' (first|refine aa0 ?_|refine aa1 ?_|refine af ?_|refine aO rfl ?_|refine ah ?_|refine aj ?_|refine ai ?_|refine Wc.block ?_))
      refine aU (σ:=Nat×List Nb) (fun q=>[(2,pT b2),(3,pT b3),(4,pT b4),(24,.slice ja 5 jc),(25,vi k),(26,.pointer (some ⟨ng,k*9,none⟩)),(154,vi N.length),(155,vi k),(164,.slice ja 5 jc),(165,vi 5),(166,vi q.1)])
       (fun q W'=>q.1≤5∧WkM (fun b=>Pb b∧ ¬(b2≤b∧b<wB.heap.size)) bw bm q.2 [] fl (.slice (some ⟨ng,0,none⟩) N.length nc) (.slice none 0 0) W'∧q.2.length=N.length∧bnF q.2=yZ G k q.1∧(∀k,stF q.2 k=0)∧JdF G lo bw b2 b3 b4 q1 q2 q3 q6 gm L Lg (.slice ta G.tree.length tc) (.slice ca G.cards.length cc) (.slice fa G.fails.length fc) (.slice ga G.gone.length gc) W'∧ny (flat jdC) 203 2 (fun b=>b=w9.heap.size) NoB W' (.slice ja 5 jc) (jdL b2 b3 b4 q1 q2 q3 q6)∧Chg Pb w W') (fun q=>5-q.1)
       (0,N2) ⟨rfl,rfl,rfl,rfl,rfl,by show Value.pointer (some ⟨ng,0+(k:Int).toNat*9,none⟩)=_;rw [Nat.zero_add,Int.toNat_natCast],rfl,rfl,rfl,rfl,rfl,trivial⟩ ⟨Nat.zero_le _,g,hN2,hb,hst,eJ,oj,cJ⟩ ?_
      clear g hN2 hb hst eJ oj cJ
      rintro ⟨m,N2⟩ F5 W5 ⟨hm,g,hN2,hb,hst,eJ,oj,cJ⟩
      dsimp only at hm g hN2 hb hst eJ oj cJ
      simp only [oO]
      (repeat' (first|refine aa0 ?_|refine af ?_|refine ah ?_|refine aj ?_|refine ai ?_|refine Wc.block ?_|refine Wc.skip ?_|refine aQ ?_|refine aS ?_|refine aJ ?_|refine aP ?_|refine aT ?_|refine aa3 ?_|refine aa4 ?_|refine aa7 ?_|refine aa9 (fun _=>?_) (fun _=>?_)))
      ·obtain ⟨e,he⟩:=nN (jdL b2 b3 b4 q1 q2 q3 q6) (k:=m) (by show m<5;omega)
       obtain ⟨x,hx⟩:=nN N2 (k:=k) (by omega)
       have hxb:=rJ hx
       refine bD (oj.rd (nP _)) rfl rfl (by omega) (by rw [Int.toNat_natCast];exact he) fun b o cs hl hR hat=>?_
       obtain rfl:cs=jdC e:=hR
       refine bQ hat rfl rfl ?_
       clear hat
       refine Wl.alloc fun w5 b5 n5 s5=>?_
       skip
       refine aX (new:=jdC e) b5 rfl rfl rfl rfl (show (2:Nat)≤2 from Nat.le_refl 2) (Uj.oc (fun _=>True) w5 e (jdC e) rfl rfl) fun w6 b6 c6 s6=>?_
       have n6:New W5 w6:=(Chg.trans n5.any c6 fun _ _ e=>e).toNew fun k hk e=>by omega
       replace b6:Bk w6 W5.heap.size 203 (jdC e):=b6
       clear b5 n5 c6
       (repeat' (first|refine af ?_|refine ah ?_|refine aj ?_|refine ai ?_|refine aa5 ?_))
       refine au (u:=.func (.func e.2.1) #[] e.2.2.toArray) rfl (b6.cell (o:=1) rfl) ?_
       (repeat' (refine aa0 ?_))
       obtain ⟨he1,hcl⟩:=Vw (eJ.new n6) (g.new n6) cn hok (by omega) (fun i hi=>by rw [hb];exact Ul G k m (by omega)) (k:=k) (by omega) he
       haveI:=Og he
       refine dG (f:=e.2.1) (first:= #[]) (cap:=e.2.2.toArray) (vs:=vi k::e.2.2) rfl hcl rfl ?_
       rintro _ w7 ⟨⟨y,rfl,hy⟩,n7⟩
       have n67:=New.trans n6 n7
       have g7:=g.new n67
       have eJ7:=eJ.new n67
       have oj7:=oj.new (mV _) n67
       have cJ7:=Chg.trans cJ n67.any (M':=fun _=>False) fun _ _ e=>e.elim
       have b7:=b6.chg n7 fun e=>e
       clear g eJ oj cJ n67 n6 n7 b6 hcl
       have hkt:k<G.tree.length:=by omega
       have hxr:x.bn=yt G m k:=by rw [←hxb,hb];exact Py G hkt
       have hsame:Ac (BM G k m) (m+2) (zh G k m)=BM G k m→bnF N2=yZ G k (m+1):=fun h=>by
        rw [hb,Iu G hkt,Oi h]
        funext i
        by_cases hi:i=k
        ·rw [if_pos hi,hi,Py G hkt]
        ·rw [if_neg hi]
       cases hh:zh G k m with
       |none=>
        rw [show (none:Option Int).isSome=false from rfl]
        (repeat' (first|refine aa0 ?_|refine aa1 ?_|refine af ?_|refine aa8 ?_|refine qi ?_|refine pq ?_|refine ah ?_|refine aj ?_|refine ai ?_|refine Wc.skip ?_|refine aJ ?_|refine aa4 ?_|refine aa7 ?_))
        exact aK (m+1,N2) ⟨rfl,rfl,rfl,rfl,rfl,rfl,rfl,rfl,rfl,rfl,rfl,trivial⟩ ⟨by dsimp only;omega,g7,hN2,hsame (by rw [hh];unfold Ac;split<;>rfl),hst,eJ7,oj7,cJ7⟩ (by dsimp only;omega)
       |some u=>
        obtain rfl:=hy u hh
        rw [show (some y).isSome=true from rfl]
        have hat:At w7 ng (k*9) (nbC x):=g7.nd.row.at rfl rfl hx
        (repeat' (first|refine aa0 ?_|refine aa1 ?_|refine af ?_|refine aa8 ?_|refine aa6 ?_|refine ah ?_|refine aj ?_|refine ai ?_|refine bI rfl ?_|refine aa5 ?_))
        refine au (u:=.int .u8 x.bn.reason) rfl (hat.get 3 rfl) ?_
        (repeat' (first|refine aa0 ?_|refine af ?_|refine aa6 ?_|refine pG ?_|refine ah ?_|refine ai ?_|refine Wc.skip ?_|refine aJ ?_|refine aa3 ?_|refine aa4 ?_|refine aa5 ?_|refine aa7 ?_|refine bV rfl rfl (fun _=>?_) (fun _=>?_)))
        ·have h0:x.bn.reason=0:=by omega
         have hr0:(BM G k m).1=0:=by rw [hxr] at h0;exact h0
         refine au (u:=.int .u8 e.1) rfl (b7.cell (o:=0) rfl) ?_
         (repeat' (first|refine aa0 ?_|refine bI rfl ?_|refine aa5 ?_))
         refine fG (f:=nbC) (sz:=9) (p:=x) (q:={x with bn:={x.bn with reason:=e.1}}) (j:=k) (o:=3) (cap:=nc) (u:=.int .u8 e.1) (fun _=>rfl) (show (3:Nat)<9 by omega) rfl hx rfl g7.nd.row (by rw [hN2]) rfl rfl fun w8 o8 c8=>?_
         have g8:=g7.Y6 hx (y:={x with bn:={x.bn with reason:=e.1}}) rfl rfl rfl o8 c8
         have Um:=(g7.nd.row.lt (k:=ng) rfl).1
         have eJ8:=eJ7.row g7.nd.row (fun k e=>hlo k (g7.nd.row.lt e).1.1) c8
         have oj8:=oj7.chg (mV _) c8 fun k h1 h2=>oj7.uz g7.nd.row rfl k h1 h2
         have cJ8:=Chg.trans cJ7 c8 fun k _ e=>by cases e;exact Um.1
         have hx8:(N2.set k {x with bn:={x.bn with reason:=e.1}})[k]? =some {x with bn:={x.bn with reason:=e.1}}:=by rw [List.getElem?_set,if_pos rfl,if_pos (by omega)]
         (repeat' (first|refine bI rfl ?_|refine aa5 ?_))
         refine fG (f:=nbC) (sz:=9) (p:={x with bn:={x.bn with reason:=e.1}}) (q:={x with bn:={x.bn with reason:=e.1,why:=y}}) (j:=k) (o:=5) (cap:=nc) (u:=vi y) (fun _=>rfl) (show (5:Nat)<9 by omega) rfl hx8 rfl g8.nd.row (by rw [List.length_set,hN2]) rfl rfl fun w9' o9 c9=>?_
         have g9:=g8.Y6 hx8 (y:={x with bn:={x.bn with reason:=e.1,why:=y}}) rfl rfl rfl o9 c9
         have eJ9:=eJ8.row g8.nd.row (fun k e=>hlo k (g8.nd.row.lt e).1.1) c9
         have oj9:=oj8.chg (mV _) c9 fun k h1 h2=>oj8.uz g8.nd.row rfl k h1 h2
         have cJ9:=Chg.trans cJ8 c9 fun k _ e=>by cases e;exact Um.1
         (repeat' (first|refine aa0 ?_|refine af ?_|refine ah ?_|refine ai ?_|refine aJ ?_|refine aa7 ?_))
         refine aK (m+1,_) ⟨rfl,rfl,rfl,rfl,rfl,rfl,rfl,rfl,rfl,rfl,rfl,trivial⟩ ⟨by dsimp only;omega,g9,by dsimp only;rw [List.length_set,List.length_set];exact hN2,?_,JB (JB hst (by rw [←vS hx];exact hst _)) (by show x.st=0;rw [←vS hx];exact hst _),eJ9,oj9,cJ9⟩ (by dsimp only;omega)
         dsimp only
         rw [JA (by rw [List.length_set];omega),JA (by omega),Iu G hkt]
         funext i
         by_cases hi:i=k
         ·rw [if_pos hi,if_pos hi,hxr,he1]
          unfold yt
          rw [show BM G k (m+1)=Ac (BM G k m) (m+2) (zh G k m) from rfl,hh]
          unfold Ac
          rw [if_pos hr0]
         ·rw [if_neg hi,if_neg hi]
          dsimp only
          rw [if_neg hi,hb]
        ·have hr0:(BM G k m).1≠0:=by
          have h0:x.bn.reason≠0:=by omega
          rw [hxr] at h0;exact h0
         exact aK (m+1,N2) ⟨rfl,rfl,rfl,rfl,rfl,rfl,rfl,rfl,rfl,rfl,rfl,trivial⟩ ⟨by dsimp only;omega,g7,hN2,hsame (by unfold Ac;rw [if_neg hr0]),hst,eJ7,oj7,cJ7⟩ (by dsimp only;omega)
      ·obtain rfl:m=5:=by omega
       rw [Q8] at hb
       exact aK (k+1,N2) ⟨rfl,rfl,rfl,rfl,rfl,rfl,trivial⟩ ⟨by dsimp only;omega,g,hN2,hb,hst,eJ,oj,cJ⟩ (by dsimp only;omega)
     ·obtain rfl:k=N.length:=by omega
      rw [hN,Uk] at hb
      exact dI rfl ⟨_,rfl,N2,g.mono fun b _ hb=>hb.1,by omega,hb,hst,cJ⟩
end
end Go.Proofs.YtjecgaiaiophpaaGreatDoor
namespace Go.Proofs.YtjecgaiaiophpaaGreatDoor
open Go Wk
open Go.RowKit (Below)
attribute [local irreducible] Go.Calls
class Wk.zu (Q:Po):Prop where
 out: ∀F w, ¬Q .outgrown F w
instance {L D:Nat} {W0:World} {I:World→Prop} {Ix:Code→World→Prop}:zu (Qrd L D W0 I Ix):=⟨Qrd.out⟩
instance {K:Fr→World→Prop}:zu (Qas K):=⟨Qas.out⟩
instance {P:Program} {n:Nat} {r:Option Nat} {b:Code} {Q:Po} [h:zu Q]:zu (Qsr P n r b Q):=⟨Qsr.out h.out⟩
instance {id:Nat} {Q:Po} [h:zu Q]:zu (ni id Q):=⟨ni.out h.out⟩
theorem fP {P:Program} {n:Nat} {r:Option Nat} {Q:Po} {F:Fr} {w:World} {a b:Code} (M:Fr→World→Prop) (h1:Wr P n r (Qas M) a F w) (h2: ∀F w,M F w→Wr P n r Q b F w):Wr P n r Q (.seq a b) F w:=by
 refine fA ?_
 unfold Wr at h1 ⊢
 refine wpIn_mono h1 ?_
 rintro e a' w' ⟨F',rfl,hq⟩
 refine ⟨F',rfl,?_⟩
 cases e with
 |normal=>unfold Qsr;exact h2 F' w' hq
 |_=>exact hq.elim
theorem Wk.Wd.frame {P:Program} {n:Nat} {Q:Pd} {ds:List Deferred} {c:Code} {F:Fr} {w:World} (l:List (Nat×Value)) (hF:agrees F l) (h: ∀G,Wd P n Q c ds (oO G l) w):Wd P n Q c ds F w:=by
 have:=h F
 rwa [oD hF] at this
theorem GY {w:World}:(Instr.build 39 #[(1,vi (-1)),(2,vi (-1))]).run Tryz.prog w=.ok (.agg #[.int .u8 0,vi (-1),vi (-1)]) w:=by
 kernel_rfl
theorem GZ {w:World} {s:List UInt8} {d:Bool}:(Instr.build 118 #[(0,vs s),(1,.bool d),(3,.agg #[.int .u8 0,vi (-1),vi (-1)])]).run Tryz.prog w=.ok (.agg #[vs s,.bool d,.int .u8 0,.int .u8 0,vi (-1),vi (-1),.slice none 0 0,.bool false,.bool false]) w:=by
 kernel_rfl
abbrev ndV (p:Nm) (d:Bool) (lv:Int) (rs:Nat) (c:Int) (wv:Value):List Value:=[vs p,.bool d,.int .u8 lv,.int .u8 rs,vi c,vi (-1),wv,.bool false,.bool false]
theorem ad2 (p:Nm) (d:Bool) (lv:Int) (rs:Nat) (c:Int) {a:Option Addr} {l m:Nat}: ∀x∈ndV p d lv rs c (.slice a l m),x.oneCell'=true:=by
 intro x hx
 simp at hx
 rcases hx with rfl|rfl|rfl|rfl|rfl|rfl|rfl|rfl<;>rfl
theorem Wk.LLs.V6 {P:Program} {β γ:Type} {f:β→List Value} {g:β→Value} {xs:β→List γ} {h:γ→Value} {te e sz:Nat} {Pb:Nat→Prop} {w w':World} {v:Value} {bs:List β} (H:LLs f g xs h te e sz Pb w v bs) {b:Nat} {T:TypeId} {cs:List Value} (hb:Bk w b T cs) (n1:Nat.beq te T=false) (n2:Nat.beq e T=false) (c:Chg (fun k=>k=b) w w'):LLs f g xs h te e sz Pb w' v bs:=
 ⟨H.row.chg (mV f) c fun k hk e=>H.row.pR hb n1 hk e,fun x hx=>(H.el x hx).chg (mZ h) c fun k hk e=>(H.el x hx).pR hb n2 hk e,H.xY,H.sep⟩
theorem Iw {α:Type} (l:List α) (y d:α) (i:Nat):(l++ [y]).getD i d=if i=l.length then y else l.getD i d:=by
 rw [List.getD_eq_getElem?_getD,List.getD_eq_getElem?_getD]
 by_cases h:i=l.length
 ·rw [if_pos h,h];simp
 ·rw [if_neg h]
  by_cases h2:i<l.length
  ·rw [List.getElem?_append_left h2]
  ·rw [List.getElem?_eq_none (by simp;omega),List.getElem?_eq_none (by omega)]
theorem Un (N:List Nb) (y:Nb) (i:Nat):bnF (N++ [y]) i=if i=N.length then y.bn else bnF N i:=by
 unfold bnF;rw [Iw];split<;>rfl
theorem Uo (N:List Nb) (y:Nb) (i:Nat):stF (N++ [y]) i=if i=N.length then y.st else stF N i:=by
 unfold stF;rw [Iw];split<;>rfl
theorem WkM.Y7 {Pb:Nat→Prop} {bw bm:Nat} {N:List Nb} {ord Y8:List Nat} {fl:List (Nm×Int)} {nv ov ov':Value} {W W1 W':World} (g:WkM Pb bw bm N ord fl nv ov W) (od:ny (Wk.one viN) 3 1 Pb NoB W1 ov' Y8) (c1:Chg (fun k=>ov.ownBlock=some k) W W1) (lie:ov'.ownBlock=ov.ownBlock∨ ∀k,ov'.ownBlock=some k→W.heap.size≤k) (b':Bk W' bw 108 [nv,ov',.map (some bm)]) (c2:Chg (fun k=>k=bw) W1 W'):WkM Pb bw bm N Y8 fl nv ov' W':=by
 have b1:=g.b.chg c1 fun e=>g.od.pR g.b rfl e rfl
 have m1:=g.mp.chg c1 fun e=>g.od.qQ g.mp e rfl
 have nd1:LLs nbC (fun x=>svV x.wv) (fun x=>x.bn.wants) viN 118 3 9 Pb W1 nv N:=
  ⟨g.nd.row.chg (mV nbC) c1 fun k hk e=>g.nd.row.uz g.od rfl k hk e,fun x hx=>(g.nd.el x hx).chg (mZ _) c1 fun k hk e=>g.so x hx k hk e,g.nd.xY,g.nd.sep⟩
 refine ⟨b',nd1.V6 (P:=Tryz.prog) b1 rfl rfl c2,od.chg (mZ _) c2 fun k hk e=>od.pR b1 rfl hk e,m1.chg c2 fun e=>b1.qQ m1 e.symm,fun x hx k h1 h2=>?_,g.win,g.nl,g.fn,g.lo2⟩
 rcases lie with e|e
 ·exact g.so x hx k h1 (e▸h2)
 ·have:=e k h2;have:=((g.nd.el x hx).lt h1).2;omega
def lvC (G:Giv) (c:Option Nat):Int:=match c with|some j=>(G.cards.getD j default).level|none=>0
def Ur (G:Giv) (k i:Nat):Bn:=if i<k then wK G [] i else default
section
variable {w:World} {G:Giv} {tv cv fv gv:Value} {Pg:Nat→Prop}
theorem Gw (r:RdG Pg w G tv cv fv gv) (hfl: ∀x∈G.fails,x.length≤100000000) (hgl: ∀x∈G.gone,x.length≤100000000):
 Calls Tryz.prog 13 #[.agg #[tv,cv,fv,gv]] w (Ret fun v w'=>(if qf G=0 then Px G w.heap.size v w' else v=.tuple #[.pointer none,vi (qf G)])∧New w w'):=by
 obtain ⟨ta,tc,rfl,_,_⟩:=r.t.form
 obtain ⟨ca,cc,rfl,_,_⟩:=r.c.form
 obtain ⟨fa,fc,rfl,_,_⟩:=r.f.form
 obtain ⟨ga,gc,rfl,_,_⟩:=r.g.form
 refine Et Tryz.func13 rfl Tryz.ntmps13 rfl ?_
 (repeat' (first|refine dX ?_|refine dY ?_))
 refine bJ rfl fun w1 b1 n1 s1=>?_
 replace b1:Bk w1 w.heap.size 27 [.slice ta G.tree.length tc,.slice ca G.cards.length cc,.slice fa G.fails.length fc,.slice ga G.gone.length gc]:=b1
 (repeat' (first|refine aa1 ?_|refine af ?_|refine dX ?_|refine dO ?_|refine dY ?_|refine aa5 ?_))
 refine au (u:=.slice ta G.tree.length tc) rfl (b1.cell (o:=0) rfl) ?_
 skip
 refine ay (uJ (r.t.keep nO n1.keep)) rfl ?_
 rintro _ w2 ⟨rfl,n2⟩
 have n02:=New.trans n1 n2
 have b12:=b1.chg n2 fun e=>e
 unfold Ee
 cases hok:nV G.tree with
 |false=>
  have hE:qf G=40:=by unfold qf;rw [hok];rfl
  rw [show (if false=true then (0:Int) else 40)=40 from rfl]
  (repeat' (first|refine aa0 ?_|refine aa1 ?_|refine af ?_|refine aa8 ?_|refine dX ?_|refine iI rfl ?_|refine dO ?_|refine iH ?_|refine dY ?_|refine iG ?_|(refine pV (fun _=>?_) (fun _=>?_)<;>(first|(exfalso;omega)|skip))))
  exact gG (sD rfl (qo rfl) (qo rfl)) ⟨_,rfl,by rw [hE,if_neg (by decide)];rfl,n02⟩
 |true=>
 rw [show (if true=true then (0:Int) else 40)=0 from rfl]
 (repeat' (first|refine aa0 ?_|refine aa1 ?_|refine af ?_|refine aa8 ?_|refine dX ?_|refine iJ rfl ?_|refine dO ?_|refine dY ?_|refine Wd.skip ?_|refine aa5 ?_|(refine pV (fun _=>?_) (fun _=>?_)<;>(first|(exfalso;omega)|skip))))
 refine au (u:=.slice ca G.cards.length cc) rfl (b12.cell (o:=1) rfl) ?_
 skip
 refine ay (En (r.c.keep qx n02.keep)) rfl ?_
 rintro _ w3 ⟨⟨ck,rfl⟩,n3⟩
 have n03:=New.trans n02 n3
 have b13:=b12.chg n3 fun e=>e
 unfold FU
 cases hco:sK G.cards with
 |false=>
  have hE:qf G=70:=by unfold qf;rw [hok,hco];rfl
  rw [show (if false=true then (0:Int) else 70)=70 from rfl]
  (repeat' (first|refine aa0 ?_|refine aa1 ?_|refine af ?_|refine aa8 ?_|refine dX ?_|refine iI rfl ?_|refine dO ?_|refine iH ?_|refine dY ?_|refine iG ?_|(refine pV (fun _=>?_) (fun _=>?_)<;>(first|(exfalso;omega)|skip))))
  exact gG (sD rfl (qo rfl) (qo rfl)) ⟨_,rfl,by rw [hE,if_neg (by decide)];rfl,n03⟩
 |true=>
 rw [show (if true=true then (0:Int) else 70)=0 from rfl]
 (repeat' (first|refine aa0 ?_|refine aa1 ?_|refine af ?_|refine aa8 ?_|refine dX ?_|refine iJ rfl ?_|refine dO ?_|refine dY ?_|refine Wd.skip ?_|refine aa5 ?_|(refine pV (fun _=>?_) (fun _=>?_)<;>(first|(exfalso;omega)|skip))))
 refine au (u:=.slice fa G.fails.length fc) rfl (b13.cell (o:=2) rfl) ?_
 have hlo:512<G.fails.length∨512<G.gone.length→qf G=1:=fun h=>by unfold qf;rw [hok,hco,if_neg (by decide),if_neg (by decide),if_pos h]
 have hE0: ¬512<G.fails.length→ ¬512<G.gone.length→qf G=0:=fun h1 h2=>by unfold qf;rw [hok,hco,if_neg (by decide),if_neg (by decide),if_neg fun h=>h.elim h1 h2]
 (repeat' (first|refine aa0 ?_|refine aa1 ?_|refine af ?_|refine aa6 ?_|refine qi ?_|refine pG ?_|refine aO rfl ?_|refine dX ?_|refine iI rfl ?_|refine dO ?_|refine iH ?_|refine dY ?_|refine iG ?_|refine aa5 ?_|refine bM rfl rfl (fun _=>?_) (fun _=>?_)))
 ·have hE:=hlo (.inl (by omega))
  exact gG (sD rfl (qo rfl) (qo rfl)) ⟨_,rfl,by rw [hE,if_neg (by decide)];rfl,n03⟩
 refine au (u:=.slice ga G.gone.length gc) rfl (b13.cell (o:=3) rfl) ?_
 (repeat' (first|refine aa1 ?_|refine af ?_|refine aa6 ?_|refine pq ?_|refine aO rfl ?_|refine dX ?_|refine iI rfl ?_|refine iJ rfl ?_|refine dO ?_|refine iH ?_|refine dY ?_|refine Wd.skip ?_|refine iG ?_|refine aa5 ?_|refine bM rfl rfl (fun _=>?_) (fun _=>?_)))
 ·have hE:=hlo (.inr (by omega))
  exact gG (sD rfl (qo rfl) (qo rfl)) ⟨_,rfl,by rw [hE,if_neg (by decide)];rfl,n03⟩
 have hE:=hE0 (by omega) (by omega)
 clear hlo hE0
 refine au (u:=.slice fa G.fails.length fc) rfl (b13.cell (o:=2) rfl) ?_
 skip
 refine ay (Dk (r.f.keep (nT _) n03.keep) hfl) rfl ?_
 rintro _ w4 ⟨⟨bm,L,rfl,hbm,mpL,cn⟩,n4⟩
 refine bZ (ps:=[(2,.tmp 48)]) (parts:=[(2,.map (some bm))]) rfl rfl (by simp [Value.cells]) ?_
 refine bJ rfl fun w5 b5 n5 s5=>?_
 replace b5:Bk w5 w4.heap.size 108 [.slice none 0 0,.slice none 0 0,.map (some bm)]:=b5
 refine Wl.alloc fun w6 b6 n6 s6=>?_
 refine bH (u:=pT w4.heap.size) b6 rfl (show (0:Nat)<1 by omega) rfl rfl fun w7 b7 c7=>?_
 replace b7:Bk w7 w5.heap.size 42 [pT w4.heap.size]:=b7
 have n57:New w5 w7:=(Chg.trans n6.any c7 fun _ _ e=>e).toNew fun k hk e=>by omega
 have hz1:=n1.size
 have hz2:=n2.size
 have hz3:=n3.size
 have hz4:=n4.size
 have hz5:=n5.size
 have adp:=n57.size
 have agD:=mpL.lt
 have g0:WkM (fun b=>w.heap.size≤b∧b<w5.heap.size) w4.heap.size bm [] [] L (.slice none 0 0) (.slice none 0 0) w7:=
  ⟨b5.chg n57 fun e=>e,jE,bK,mpL.chg (New.trans n5 n57) fun e=>e,by simp,by simp,by simp,⟨cn.nd,by simp⟩,⟨by omega,by have:=b5.lt;omega⟩,⟨by omega,by omega⟩⟩
 have n07:=New.trans n03 (New.trans n4 (New.trans n5 n57))
 have b17:=b13.chg (New.trans n4 (New.trans n5 n57)) fun e=>e
 clear b6 n6 c7 n57 n5 b5 n4 mpL b1 b12 b13 n1 n2 n3 n02 n03
 generalize hbw:w4.heap.size=bw at*
 generalize hb8:w5.heap.size=b8 at*
 (repeat' (first|refine af ?_|refine dX ?_|refine dO ?_|refine dY ?_|refine aa5 ?_))
 refine au (u:=.slice ca G.cards.length cc) rfl (b17.cell (o:=1) rfl) ?_
 (repeat' (refine aa5 ?_))
 refine au (u:=.slice ta G.tree.length tc) rfl (b17.cell (o:=0) rfl) ?_
 skip
 refine ay (Kv (r.c.keep qx n07.keep) (r.t.keep nO n07.keep) hco hok) rfl ?_
 rintro _ w8 ⟨⟨mv,rfl,om⟩,n8⟩
 obtain ⟨ma,mc,rfl,_,_⟩:=om.form
 (repeat' (first|refine aa0 ?_|refine aa8 ?_))
 refine Wl.alloc fun w9 b9 n9 s9=>?_
 refine bH (u:=.slice ma (allM G.cards G.tree).length mc) b9 rfl (show (0:Nat)<1 by omega) rfl rfl fun w10 b10 c10=>?_
 replace b10:Bk w10 w8.heap.size 109 [.slice ma (allM G.cards G.tree).length mc]:=b10
 have G6:New w8 w10:=(Chg.trans n9.any c10 fun _ _ e=>e).toNew fun k hk e=>by omega
 generalize hb9:w8.heap.size=b9' at*
 (repeat' (first|refine aa1 ?_|refine af ?_|refine dX ?_|refine dO ?_|refine dY ?_|refine aa5 ?_))
 refine au (u:=.slice ta G.tree.length tc) rfl ((b17.chg (New.trans n8 G6) fun e=>e).cell (o:=0) rfl) ?_
 have n0a:=New.trans n07 (New.trans n8 G6)
 skip
 refine ay (Ij (r.t.keep nO n0a.keep) hok) rfl ?_
 rintro _ w11 ⟨⟨bq,sv,rfl,hbq,hq⟩,n11⟩
 have n0b:=New.trans n0a n11
 have hz8:=n8.size
 have afK:=G6.size
 have TA:=n11.size
 have afL:=b17.lt
 have adM:=b7.lt
 have afM:=b10.lt
 have adB:=hq.1.lt
 have htl:=oN hok
 have hpl:=wJ G.tree
 have hal:=Ku G.cards G.tree
 obtain ⟨D,hD⟩: ∃D,D=w11.heap.size:=⟨_,rfl⟩
 have Jp:=New.trans n8 (New.trans G6 n11)
 have b1a:=b17.chg Jp fun e=>e
 have b8a:=b7.chg Jp fun e=>e
 have b9a:=b10.chg n11 fun e=>e
 have oma:=(om.new (mV _) (New.trans G6 n11)).mono (Pb':=fun b=>b<D) (nP _) (fun b hb _=>by show b<D;omega) (fun _ _ e=>e)
 have g0a:=(g0.new Jp).mono (Pb':=fun b=>w.heap.size≤b∧b≠D∧b≠D+1∧b≠b8) fun b hb e=>⟨e.1,by have:=e.2;omega,by have:=e.2;omega,by have:=e.2;omega⟩
 clear b17 b7 b10 om g0 n8 G6 n11 n07 n0a Jp
 let I:Nat→World→Prop:=fun k W=>New w W∧D+2≤W.heap.size∧SqW (fun b=>w10.heap.size≤b∧b<D) bq sv (oZ G.tree) W∧Bk W w.heap.size 27 [.slice ta G.tree.length tc,.slice ca G.cards.length cc,.slice fa G.fails.length fc,.slice ga G.gone.length gc]∧Bk W b8 42 [pT bw]∧Bk W b9' 109 [.slice ma (allM G.cards G.tree).length mc]∧ny Na FV 2 (fun b=>b<D) NoB W (.slice ma (allM G.cards G.tree).length mc) (allM G.cards G.tree)∧ ∃N nv,WkM (fun b=>w.heap.size≤b∧b≠D∧b≠D+1∧b≠b8) bw bm N [] L nv (.slice none 0 0) W∧N.length=k∧bnF N=Ur G k∧(∀j,stF N j=0)∧ ∀j,nv.ownBlock=some j→D≤j
 (repeat' (first|refine af ?_|refine Wd.block ?_|refine dO ?_))
 refine Wd.frame [(1,pT w.heap.size),(8,pT b8),(9,pT b9'),(61,.func (.func 95) #[] #[pT bq])] ⟨rfl,rfl,rfl,rfl,trivial⟩ fun G0=>?_
 simp only [oO]
 refine jL (gf:=95) (lb:= #[pT bq]) rfl (fun args _=>rD inferInstance args) (iter_walk (Pb:=fun b=>w10.heap.size≤b∧b<D) (bs:=bq) (v:=sv) (l:=oZ G.tree)) (fun k=>rfl) I (fun _ _=>False) ?_ ?_ ?_ ?_ ?_ ?_ ?_ ?_ ?_
 ·exact fun k W h=>h.2.2.1
 ·rintro k W W' ⟨h1,h2,h3,h4,h5,h6,h7,N,nv,h8,h9⟩ n
  exact ⟨h1.trans n,Nat.le_trans h2 n.size,h3.new n,h4.chg n fun e=>e,h5.chg n fun e=>e,h6.chg n fun e=>e,h7.new (mV _) n,N,nv,h8.new n,h9⟩
 ·rintro k W r1 r2 ⟨h1,h2,h3,h4,h5,h6,h7,N,nv,h8,h9⟩ hL
  have z:=n0b.size
  have nL:NoC W (w11.heap.size+1):=.loop hL
  exact ⟨h1.put _ (by omega),by simpa using h2,h3.put _ nL (by omega),h4.put _ nL,h5.put _ nL,h6.put _ nL,h7.put _ (mV _) nL,N,nv,h8.chg (Chg.putObj W _ _) (fun k hk e=>hk.2.2.1 (by omega)),h9⟩
 ·exact fun _ _ _ _ h=>h.elim
 ·intro r1
  have n:=jM (w:=w11) (.deferred (some [])) (.loop r1)
  exact ⟨n0b.trans n,by rw [hD];simp,(hD▸hq).new n,b1a.chg n fun e=>e,b8a.chg n fun e=>e,b9a.chg n fun e=>e,oma.new (mV _) n,[],.slice none 0 0,g0a.new n,rfl,by funext i;unfold Ur bnF;rw [if_neg (Nat.not_lt_zero i)];rfl,fun j=>rfl,fun j e=>by cases e⟩
 ·rintro k W r1 hk ⟨h1,h2,h3,h4,h5,h6,h7,N,nv,g,hN,hb,hst,hnv⟩ hL hDf
  subst hD
  have hkt:k<G.tree.length:=by omega
  have hgk:(oZ G.tree).getD k []=oz G.tree k:=by rw [List.getD_eq_getElem?_getD,sF hkt];rfl
  show Wr _ _ _ _ _ (upd (upd _ 62 (vs ((oZ G.tree).getD k []))) 63 (vi k)) W
  rw [hgk]
  (repeat' (first|refine aa1 ?_|refine af ?_|refine dU ?_|refine fA ?_|refine dN rfl (by repeat' (first|exact Qfn.out (by rintro _ ⟨⟨_,e⟩,_⟩;cases e)|exact Qrd.out|exact Qas.out|refine Qsr.out ?_|refine mY.out ?_|refine Qsc.out ?_|refine ni.out ?_)) ?_))
  refine ⟨aV _ _,fun r'=>?_⟩
  have nL:NoC W (w11.heap.size+1):=.loop hL
  have hLt:=nL.lt
  have z0:=n0b.size
  have q1:New w (W.putObj (w11.heap.size+1) (.loop r')):=h1.put _ (by omega)
  have q2:w11.heap.size+2≤(W.putObj (w11.heap.size+1) (.loop r')).heap.size:=by simpa using h2
  have q3:=h3.put (.loop r') nL (by omega)
  have q4:=h4.put (.loop r') nL
  have q5:=h5.put (.loop r') nL
  have q6:=h6.put (.loop r') nL
  have q7:=h7.put (.loop r') (mV _) nL
  have qg:=g.chg (Chg.putObj W (w11.heap.size+1) (.loop r')) (fun k hk e=>hk.2.2.1 e)
  have qL:NoC (W.putObj (w11.heap.size+1) (.loop r')) (w11.heap.size+1):=.loop (World.putObj_heap_same hLt)
  have qD:NoC (W.putObj (w11.heap.size+1) (.loop r')) w11.heap.size:=.mark ((World.putObj_heap_other (by omega)).trans hDf)
  generalize W.putObj (w11.heap.size+1) (.loop r')=W3 at*
  clear h1 h2 h3 h4 h5 h6 h7 g hL hDf nL hLt
  have agE:=qL.lt
  refine Wr.block ?_
  refine fP (fun F W=>agrees F [(1,pT w.heap.size),(8,pT b8),(9,pT b9'),(11,vs (oz G.tree k)),(12,vi k),(13,.bool (onM G.tree k))]∧New W3 W) ?_ ?_
  ·(repeat' (first|refine dN rfl Wk.zu.out ?_|refine aa5 ?_))
   refine au (u:=.slice ta G.tree.length tc) rfl (q4.cell (o:=0) rfl) ?_
   (repeat' (refine aa0 ?_))
   refine ay (Cm (i:=k) (r.t.keep nO q1.keep) hok hkt) rfl ?_
   rintro _ W4 ⟨rfl,n4⟩
   (repeat' (first|refine aa0 ?_|refine aa1 ?_|refine af ?_|refine aa8 ?_))
   exact ⟨⟨rfl,rfl,rfl,rfl,rfl,rfl,trivial⟩,n4⟩
  rintro F W4 ⟨hF,n4⟩
  rw [←oD hF]
  simp only [oO]
  clear hF
  refine fP (fun F W=>agrees F [(1,pT w.heap.size),(8,pT b8),(9,pT b9'),(11,vs (oz G.tree k)),(12,vi k),(13,.bool (onM G.tree k)),(15,.bool (Bh G.tree k))]∧New W4 W) ?_ ?_
  ·(repeat' (first|refine dN rfl Wk.zu.out ?_|refine aa5 ?_))
   refine au (u:=.slice ta G.tree.length tc) rfl ((q4.chg n4 fun e=>e).cell (o:=0) rfl) ?_
   (repeat' (refine aa0 ?_))
   refine ay (MS (i:=k) (r.t.keep nO (New.trans q1 n4).keep) hok hkt) rfl ?_
   rintro _ W5 ⟨rfl,n5⟩
   (repeat' (first|refine aa0 ?_|refine aa1 ?_|refine af ?_|refine aa8 ?_))
   exact ⟨⟨rfl,rfl,rfl,rfl,rfl,rfl,rfl,trivial⟩,n5⟩
  rintro F W5 ⟨hF,n5⟩
  rw [←oD hF]
  simp only [oO]
  clear hF
  have n35:=New.trans n4 n5
  have adz:=n35.size
  refine fP (fun F W=>agrees F [(1,pT w.heap.size),(8,pT b8),(9,pT b9'),(11,vs (oz G.tree k)),(12,vi k),(13,.bool (onM G.tree k)),(17,pT W5.heap.size)]∧Bk W W5.heap.size 118 (ndV (oz G.tree k) (qF G.tree k) 0 0 (-1) (.slice none 0 0))∧New W5 W) ?_ ?_
  ·have hdv:qF G.tree k=(decide (0<k)&&(onM G.tree k&& !Bh G.tree k)):=rfl
   obtain ⟨d,hd⟩: ∃d,qF G.tree k=d:=⟨_,rfl⟩
   have hd2:=hd.symm.trans hdv
   rw [hd]
   clear hd hdv
   cases hon:onM G.tree k<;>cases hpn:Bh G.tree k<;>by_cases hk0:0<k<;>rw [hon,hpn] at hd2<;>simp [hk0] at hd2<;>subst hd2<;>
   (
   (repeat' (first|refine aa0 ?_|refine aa6 ?_|refine qi ?_|refine pG ?_|refine pq ?_|refine aZ rfl ?_|refine dN rfl Wk.zu.out ?_|(refine bM rfl rfl (fun _=>?_) (fun _=>?_)<;>(first|(exfalso;omega)|skip))))
   refine fE (ps:=[(1,.const (vi (-1))),(2,.const (vi (-1)))]) (parts:=[(1,vi (-1)),(2,vi (-1))]) rfl GY ?_
   refine fE (ps:=[(0,.tmp 78),(1,.tmp 87),(3,.tmp 88)]) (parts:=[(0,vs (oz G.tree k)),(1,.bool _),(3,.agg #[.int .u8 0,vi (-1),vi (-1)])]) rfl GZ ?_
   refine Wl.alloc fun W6 b6 n6 s6=>?_
   refine aX (new:=ndV (oz G.tree k) _ 0 0 (-1) (.slice none 0 0)) b6 rfl rfl rfl rfl (show (9:Nat)≤9 from Nat.le_refl 9) (ad2 _ _ _ _ _) fun W7 b7 c7 s7=>?_
   (repeat' (refine af ?_))
   exact ⟨⟨rfl,rfl,rfl,rfl,rfl,rfl,rfl,trivial⟩,b7,(Chg.trans n6.any c7 fun _ _ e=>e).toNew fun k hk e=>by omega⟩)
  rintro F W6 ⟨hF,b17,n6⟩
  rw [←oD hF]
  simp only [oO]
  clear hF
  refine fP (fun F W=>agrees F [(1,pT w.heap.size),(8,pT b8),(9,pT b9'),(11,vs (oz G.tree k)),(12,vi k),(13,.bool (onM G.tree k)),(17,pT W5.heap.size)]∧Bk W W5.heap.size 118 (ndV (oz G.tree k) (qF G.tree k) 0 0 (qw (if qF G.tree k=true then qI G.cards G.tree k else none)) (.slice none 0 0))∧New W5 W) ?_ ?_
  ·(repeat' (first|refine fA ?_|refine dN rfl Wk.zu.out ?_|refine aa5 ?_))
   refine au (u:=.bool (qF G.tree k)) rfl (b17.cell (o:=1) rfl) ?_
   cases hd:qF G.tree k with
   |false=>
    rw [hd] at b17
    (repeat' (first|refine af ?_|refine dU ?_|refine Wr.skip ?_|refine gB rfl ?_))
    exact ⟨⟨rfl,rfl,rfl,rfl,rfl,rfl,rfl,trivial⟩,b17,n6⟩
   |true=>
    rw [hd] at b17
    have n36:=New.trans n35 n6
    have hm0:(xH (wE G.cards (rE G.tree k)))[0]? =some (vi (qw (qI G.cards G.tree k))):=by unfold qI;cases wE G.cards (rE G.tree k)<;>rfl
    have hme:(allM G.cards G.tree)[k]? =some (wE G.cards (rE G.tree k)):=by unfold allM;rw [List.getElem?_map,List.getElem?_range hkt];rfl
    (repeat' (first|refine af ?_|refine dU ?_|refine dN rfl Wk.zu.out ?_|refine gy rfl ?_))
    refine au (u:=.slice ma (allM G.cards G.tree).length mc) rfl ((q6.chg n36 fun e=>e).cell (o:=0) rfl) ?_
    (repeat' (refine aa0 ?_))
    refine bD ((q7.new (mV _) n36).rd (nP _)) rfl rfl (by omega) (by rw [Int.toNat_natCast];exact hme) fun b o cs hl hR hat=>?_
    obtain rfl:cs=xH _:=hR
    (repeat' (refine aa5 ?_))
    refine au (u:=vi (qw (qI G.cards G.tree k))) rfl (hat.get 0 hm0) ?_
    clear hat
    (repeat' (refine aa5 ?_))
    refine bH (u:=vi (qw (qI G.cards G.tree k))) b17 rfl (show (4:Nat)<9 by omega) rfl rfl fun W7 b7 c7=>?_
    (repeat' (refine af ?_))
    exact ⟨⟨rfl,rfl,rfl,rfl,rfl,rfl,rfl,trivial⟩,b7,(Chg.trans n6.any c7 fun _ _ e=>e).toNew fun k hk e=>by omega⟩
  clear b17 n6
  rintro F W6 ⟨hF,b17,n6⟩
  rw [←oD hF]
  simp only [oO]
  clear hF
  have hcl: ∀j,(if qF G.tree k=true then qI G.cards G.tree k else none)=some j→j<G.cards.length:=fun j hj=>by
   split at hj
   ·unfold qI at hj
    cases hf:wE G.cards (rE G.tree k) with
    |none=>rw [hf] at hj;cases hj
    |some p=>rw [hf] at hj;cases hj;exact (JV (i:=p.1) (k:=p.2) hf).1
   ·cases hj
  obtain ⟨c,hc⟩: ∃c,(if qF G.tree k=true then qI G.cards G.tree k else none)=c:=⟨_,rfl⟩
  rw [hc] at b17 hcl
  refine fP (fun F W=>agrees F [(1,pT w.heap.size),(8,pT b8),(9,pT b9'),(11,vs (oz G.tree k)),(12,vi k),(13,.bool (onM G.tree k)),(17,pT W5.heap.size)]∧Bk W W5.heap.size 118 (ndV (oz G.tree k) (qF G.tree k) (lvC G c) 0 (qw c) (.slice none 0 0))∧New W5 W) ?_ ?_
  ·(repeat' (first|refine fA ?_|refine dN rfl Wk.zu.out ?_|refine aa5 ?_))
   refine au (u:=vi (qw c)) rfl (b17.cell (o:=4) rfl) ?_
   cases c with
   |none=>
    rw [show qw none= -1 from rfl]
    (repeat' (first|refine af ?_|refine dU ?_|refine Wr.skip ?_|refine gB rfl ?_|(refine cZ rfl rfl (fun _=>?_) (fun _=>?_)<;>(first|(exfalso;omega)|skip))))
    exact ⟨⟨rfl,rfl,rfl,rfl,rfl,rfl,rfl,trivial⟩,b17,n6⟩
   |some j=>
    have hjl:=hcl j rfl
    obtain ⟨x,hx⟩:=nN G.cards hjl
    have n36:=New.trans n35 n6
    have hkp:=(New.trans q1 n36).keep (Pb:=Pg)
    rw [show qw (some j)=(j:Int) from rfl]
    (repeat' (first|refine af ?_|refine dU ?_|refine dN rfl Wk.zu.out ?_|refine gy rfl ?_|refine aa5 ?_|(refine cZ rfl rfl (fun _=>?_) (fun _=>?_)<;>(first|(exfalso;omega)|skip))))
    refine au (u:=.slice ca G.cards.length cc) rfl ((q4.chg n36 fun e=>e).cell (o:=1) rfl) ?_
    (repeat' (refine aa5 ?_))
    refine au (u:=vi j) rfl (b17.cell (o:=4) rfl) ?_
    skip
    refine bD (r.c.keep qx hkp) rfl rfl (by omega) (by rw [Int.toNat_natCast];exact hx) fun b o cs hl hR hat=>?_
    obtain ⟨va,rfl,_⟩:=hR
    (repeat' (refine aa5 ?_))
    refine au (u:=.int .u8 x.level) rfl (hat.get 2 rfl) ?_
    clear hat
    (repeat' (refine aa5 ?_))
    refine bH (u:=.int .u8 x.level) b17 rfl (show (2:Nat)<9 by omega) rfl rfl fun W7 b7 c7=>?_
    (repeat' (refine af ?_))
    exact ⟨⟨rfl,rfl,rfl,rfl,rfl,rfl,rfl,trivial⟩,by unfold lvC;dsimp only;rw [List.getD_eq_getElem?_getD,hx];exact b7,(Chg.trans n6.any c7 fun _ _ e=>e).toNew fun k hk e=>by omega⟩
  clear b17 n6
  rintro F W6 ⟨hF,b17,n6⟩
  rw [←oD hF]
  simp only [oO]
  clear hF
  refine fP (fun F W=> ∃wv:SV,agrees F [(1,pT w.heap.size),(8,pT b8),(9,pT b9'),(11,vs (oz G.tree k)),(12,vi k),(13,.bool (onM G.tree k)),(17,pT W5.heap.size)]∧Bk W W5.heap.size 118 (ndV (oz G.tree k) (qF G.tree k) (lvC G c) 0 (qw c) (svV wv))∧ny (Wk.one viN) 3 1 (fun b=>W3.heap.size≤b) NoB W (svV wv) (if 0<k then [par G.tree k] else [])∧New W5 W) ?_ ?_
  ·have Y9:=New.trans n35 n6
   have hkp:=(New.trans q1 Y9).keep (Pb:=Pg)
   by_cases hk0:0<k
   ·rw [if_pos hk0]
    have hpar:=uo hok (i:=k) (by omega) hkt
    (repeat' (first|refine aa0 ?_|refine af ?_|refine dU ?_|refine fA ?_|refine dN rfl Wk.zu.out ?_|refine gy rfl ?_|refine aa5 ?_|(refine bM rfl rfl (fun _=>?_) (fun _=>?_)<;>(first|(exfalso;omega)|skip))))
    refine au (u:=.slice ta G.tree.length tc) rfl ((q4.chg Y9 fun e=>e).cell (o:=0) rfl) ?_
    (repeat' (refine aa0 ?_))
    refine bD (r.t.keep nO hkp) rfl rfl (by omega) (by rw [Int.toNat_natCast];exact FX hkt) fun b o cs hl hR hat=>?_
    obtain ⟨pvn,rfl,_⟩:=hR
    (repeat' (refine aa5 ?_))
    refine au (u:=vi (par G.tree k)) rfl (by rw [←hpar.2];exact hat.get 0 rfl) ?_
    clear hat
    skip
    refine dB (R:=Wk.one viN) (Pe:=NoB) (y:=par G.tree k) qJ rfl rfl rfl rfl (by omega) (by omega) fun v7 W7 o7 n7 s7 e7=>?_
    obtain ⟨xa,xc,rfl,_,_⟩:=o7.form
    (repeat' (refine aa5 ?_))
    have hz6:=n6.size
    refine bH (u:=.slice xa [par G.tree k].length xc) (b17.chg n7 fun e=>e) rfl (show (6:Nat)<9 by omega) rfl rfl fun W8 b8' c8=>?_
    (repeat' (refine af ?_))
    exact ⟨(xa,[par G.tree k].length,xc),⟨rfl,rfl,rfl,rfl,rfl,rfl,rfl,trivial⟩,b8',(o7.chg (mZ _) c8 fun j h e=>by have h9:W6.heap.size≤j:=(o7.lt h).1;have:=b17.lt;omega).mono (nD _) (fun b _ e=>by have e:W6.heap.size≤b:=e;show W3.heap.size≤b;omega) (fun _ _ e=>e),(Chg.trans (New.trans n6 n7).any c8 fun _ _ e=>e).toNew fun k hk e=>by omega⟩
   ·rw [if_neg hk0]
    (repeat' (first|refine aa0 ?_|refine af ?_|refine dU ?_|refine fA ?_|refine dN rfl Wk.zu.out ?_|refine Wr.skip ?_|refine gB rfl ?_|(refine bM rfl rfl (fun _=>?_) (fun _=>?_)<;>(first|(exfalso;omega)|skip))))
    exact ⟨(none,0,0),⟨rfl,rfl,rfl,rfl,rfl,rfl,rfl,trivial⟩,b17,bK,n6⟩
  clear b17 n6
  rintro F W6 ⟨hwv,hF,b17,owv,n6⟩
  rw [←oD hF]
  simp only [oO]
  clear hF
  refine fP (fun F W=>agrees F [(1,pT w.heap.size),(8,pT b8),(9,pT b9'),(11,vs (oz G.tree k)),(12,vi k),(17,pT W5.heap.size)]∧Bk W W5.heap.size 118 (ndV (oz G.tree k) (qF G.tree k) (lvC G c) (if onM G.tree k=false then 1 else 0) (qw c) (svV hwv))∧ny (Wk.one viN) 3 1 (fun b=>W3.heap.size≤b) NoB W (svV hwv) (if 0<k then [par G.tree k] else [])∧New W5 W) ?_ ?_
  ·cases hon:onM G.tree k with
   |true=>
    (repeat' (first|refine aa0 ?_|refine af ?_|refine aZ rfl ?_|refine dU ?_|refine fA ?_|refine dN rfl Wk.zu.out ?_|refine Wr.skip ?_|refine gB rfl ?_))
    exact ⟨⟨rfl,rfl,rfl,rfl,rfl,rfl,trivial⟩,b17,owv,n6⟩
   |false=>
    (repeat' (first|refine aa0 ?_|refine af ?_|refine aZ rfl ?_|refine dU ?_|refine fA ?_|refine dN rfl Wk.zu.out ?_|refine gy rfl ?_|refine aa5 ?_))
    refine bH (u:=.int .u8 1) b17 rfl (show (3:Nat)<9 by omega) rfl rfl fun W8 b8' c8=>?_
    (repeat' (refine af ?_))
    exact ⟨⟨rfl,rfl,rfl,rfl,rfl,rfl,trivial⟩,b8',owv.chg (mZ _) c8 fun j h e=>owv.pR b17 rfl h e,(Chg.trans n6.any c8 fun _ _ e=>e).toNew fun k hk e=>by omega⟩
  clear b17 owv n6
  rintro F W6 ⟨hF,b17,owv,n6⟩
  rw [←oD hF]
  simp only [oO]
  clear hF
  have n36:=New.trans n35 n6
  have agF:=n36.size
  have g6:=qg.new n36
  have q56:=q5.chg n36 fun e=>e
  obtain ⟨na,nc,rfl,_,_⟩:=g6.nd.row.form
  obtain ⟨Y,hY⟩: ∃Y:Nb,Y=⟨wK G [] k,hwv,0⟩:=⟨_,rfl⟩
  have hYc:nbC Y=ndV (oz G.tree k) (qF G.tree k) (lvC G c) (if onM G.tree k=false then 1 else 0) (qw c) (svV hwv):=by
   rw [hY, ←hc]
   rfl
  have hYw:Y.bn.wants=if 0<k then [par G.tree k] else []:=by rw [hY];unfold wK;simp
  rw [←hYc] at b17
  rw [←hYw] at owv
  have hYv:Y.wv=hwv:=by rw [hY]
  rw [←hYv] at owv
  have GU: ∀W',Chg (fun j=>(Value.slice na N.length nc).ownBlock=some j) W6 W'→Bk W' b8 42 [pT bw]:=fun W' c=>q56.chg c fun e=>g6.nd.row.pR q56 rfl e rfl
  have Vy: ∀W',Chg (fun j=>(Value.slice na N.length nc).ownBlock=some j) W6 W'→Bk W' bw 108 [.slice na N.length nc,.slice none 0 0,.map (some bm)]:=fun W' c=>g6.b.chg c fun e=>g6.nd.row.pR g6.b rfl e rfl
  have Za: ∀W',Chg (fun j=>(Value.slice na N.length nc).ownBlock=some j) W6 W'→Bk W' W5.heap.size 118 (nbC Y):=fun W' c=>b17.chg c fun e=>by have:=hnv _ e;have:=(qg.nd.row.lt e).2;omega
  refine jO rfl zu.out rfl (by kernel_rfl) (fun W'=>Chg (fun j=>(Value.slice na N.length nc).ownBlock=some j) W6 W') (Chg.drew _ _) ?_
  intro W7 m7
  skip
  refine aa2 (aB (u:=pT bw) rfl (fun W' c=>(GU W' c).cell (o:=0) rfl) (ak ?_))
  refine aa2 (aB (u:=pT bw) rfl (fun W' c=>(GU W' c).cell (o:=0) rfl) (ak ?_))
  (repeat' (first|refine aa2 (bF rfl (ak ?_))|refine aa2 (pK (ak ?_))))
  refine aa2 (aB (u:=.slice na N.length nc) rfl (fun W' c=>(Vy W' c).cell (o:=0) rfl) (ak ?_))
  skip
  refine aa2 (cu (fun W' c=>(Za W' c).at) rfl rfl (ak ?_))
  refine bC rfl (dB (R:=flat nbC) (Pe:=NoB) (y:=Y) Ue rfl rfl rfl rfl (by omega) (by omega) fun v8 W8 o8 n8 s8 e8=>?_)
  have m8:=New.trans m7 n8
  refine af ⟨rfl,m8.any,?_⟩
  refine bC rfl (dH (R:=flat nbC) Ue (g6.nd.row.new (mV _) m8) (o8.rd (nP _)) (fun z cs hz=>hz) rfl rfl (by omega) (by simp only [maxLen,List.length_singleton];omega) (by simp only [List.length_singleton];omega) fun u' W9 o9 c9 lie _=>?_)
  have c69:Chg (fun j=>(Value.slice na N.length nc).ownBlock=some j) W6 W9:=Chg.trans m8.any c9 fun _ _ e=>e
  refine af ⟨rfl,c69,?_⟩
  (repeat' (first|refine aa2 (bF rfl (ak ?_))|refine aa2 (pK (ak ?_))))
  obtain ⟨ua,uc,rfl,_,_⟩:=o9.form
  refine Wt.last rfl (bH (u:=.slice ua (N++ [Y]).length uc) (Vy W9 c69) rfl (show (0:Nat)<3 by omega) rfl rfl fun W10 Xv Aw=>?_)
  refine af ?_
  have ad3:=m8.size
  have adV:=c69.size
  have afN:=Aw.size
  have QJ:(Value.slice ua (N++ [Y]).length uc).ownBlock=(Value.slice na N.length nc).ownBlock∨ ∀k,(Value.slice ua (N++ [Y]).length uc).ownBlock=some k→W6.heap.size≤k:=lie.imp id fun h k hk=>by have:=h k hk;omega
  have QS: ∀j,(Value.slice na N.length nc).ownBlock=some j→j<W3.heap.size:=fun j e=>(qg.nd.row.lt e).2
  have V7:=g6.nd.snoc (b:=Y) (o9.mono (Pb':=fun b=>w.heap.size≤b∧b≠w11.heap.size∧b≠w11.heap.size+1∧b≠b8) (nP _) (fun b _ e=>by rcases e with e|e;exact e;exact ⟨by omega,by omega,by omega,by omega⟩) (fun _ _ e=>e)) c69 QJ
   (owv.mono (Pb':=fun b=>w.heap.size≤b∧b≠w11.heap.size∧b≠w11.heap.size+1∧b≠b8) (nD _) (fun b _ e=>by have e:W3.heap.size≤b:=e;exact ⟨by omega,by omega,by omega,by omega⟩) (fun _ _ e=>e))
   (fun j e1 e2=>by have h9:W3.heap.size≤j:=(owv.lt e1).1;have:=QS j e2;omega)
   (fun x hx j e1 e2=>by have h9:W3.heap.size≤j:=(owv.lt e1).1;have:=((qg.nd.el x hx).lt e2).2;omega)
  have ad4:=Vy W9 c69
  have LP:Chg (fun j=>j=bw∨(Value.slice na N.length nc).ownBlock=some j) W6 W10:=Chg.trans (c69.mono fun _ _ e=>.inr e) Aw fun _ _ e=>.inl e
  have hnN:(N++ [Y]).length=k+1:=by rw [List.length_append,List.length_singleton,hN]
  have gN:WkM (fun b=>w.heap.size≤b∧b≠w11.heap.size∧b≠w11.heap.size+1∧b≠b8) bw bm (N++ [Y]) [] L (.slice ua (N++ [Y]).length uc) (.slice none 0 0) W10:=by
   refine ⟨Xv,V7.V6 (P:=Tryz.prog) ad4 rfl rfl Aw,bK,((g6.mp.chg c69 fun e=>g6.nd.row.qQ g6.mp e rfl).chg Aw fun e=>g6.b.qQ g6.mp e.symm),fun x hx j e1 e2=>(by cases e2),fun x hx j hj=>?_,by omega,⟨g6.fn.1,fun x hx=>?_⟩,g6.lo2⟩
   ·rw [hnN]
    rcases List.mem_append.1 hx with hx|hx
    ·have:=g6.win x hx j hj;omega
    ·rw [List.mem_singleton.1 hx,hYw] at hj
     split at hj
     ·rw [List.mem_singleton.1 hj]
      have:=(uo hok (i:=k) (by omega) hkt).1
      omega
     ·cases hj
   ·rcases List.mem_append.1 hx with hx|hx
    ·exact g6.fn.2 x hx
    ·rw [List.mem_singleton.1 hx,hY]
     have:=SB hok hkt
     show (oz G.tree k).length≤1000000
     omega
  have hown: ∀j,(Value.slice ua (N++ [Y]).length uc).ownBlock=some j→w11.heap.size≤j:=fun j e=>by
   rcases QJ with l1|l1
   ·exact hnv j (l1▸e)
   ·have:=l1 j e;omega
  have agG:=g6.lo2.1
  have hY0:Y.st=0:=by rw [hY]
  have hYb:Y.bn=wK G [] k:=by rw [hY]
  have qL6:NoC W6 (w11.heap.size+1):=by obtain ⟨o,h1,h2⟩:=qL;exact ⟨o,(n36.block _ (Array.getElem?_eq_some_iff.1 h1).1 id).trans h1,h2⟩
  have qD6:NoC W6 w11.heap.size:=by obtain ⟨o,h1,h2⟩:=qD;exact ⟨o,(n36.block _ (Array.getElem?_eq_some_iff.1 h1).1 id).trans h1,h2⟩
  clear Za Vy GU b17 owv o8 o9 V7
  (repeat' (refine aJ ?_))
  refine ⟨(LP.block _ qL6.lt ?_).trans (n36.block _ qL.lt id),(LP.block _ qD6.lt ?_).trans (n36.block _ qD.lt id),Chg.trans (New.trans q1 n36) LP fun j hj e=>?_,by omega,(q3.new n36).chg LP ?_ ?_,(q4.chg n36 fun e=>e).chg LP ?_,q56.chg LP ?_,(q6.chg n36 fun e=>e).chg LP ?_,(q7.new (mV _) n36).chg (mV _) LP fun j h1 h2=>?_,N++ [Y],_,gN,hnN,?_,?_,hown⟩
  ·rintro (e|e)
   ·omega
   ·exact g6.nd.row.nl qL6 e rfl
  ·rintro (e|e)
   ·omega
   ·exact g6.nd.row.nl qD6 e rfl
  ·rcases e with e|e
   ·omega
   ·have:=hnv j e;omega
  ·rintro (e|e)
   ·omega
   ·have:=hnv _ e;omega
  ·rintro j hj (e|e)
   ·omega
   ·have:=hnv _ e;omega
  ·rintro (e|e)
   ·omega
   ·have:=hnv _ e;omega
  ·rintro (e|e)
   ·omega
   ·have:=hnv _ e;omega
  ·rintro (e|e)
   ·omega
   ·have:=hnv _ e;omega
  ·rcases h2 with e|e
   ·exact (q7.new (mV _) n36).pR g6.b rfl h1 e
   ·have h9:j<w11.heap.size:=(q7.lt h1).1
    have:=hnv _ e;omega
  ·funext i
   rw [Un,hb,hN,hYb]
   unfold Ur
   by_cases hi:i=k
   ·rw [if_pos hi,if_pos (by omega),hi]
   ·rw [if_neg hi]
    by_cases h2:i<k
    ·rw [if_pos h2,if_pos (by omega)]
    ·rw [if_neg h2,if_neg (by omega)]
  ·intro j
   rw [Uo]
   split
   ·exact hY0
   ·exact hst j
 ·rintro W ⟨h1,h2,h3,h4,h5,h6,h7,N,nv,g,hN,hb,hst,hnv⟩ hDf
  subst hD
  clear h3 h6 h7 oma g0a b1a b8a b9a hq
  rw [hpl] at hN hb
  clear I
  have z0:=n0b.size
  have rW:RdG (fun b=>b<w.heap.size) W G (.slice ta G.tree.length tc) (.slice ca G.cards.length cc) (.slice fa G.fails.length fc) (.slice ga G.gone.length gc):=
   RdG.keep ⟨r.t.mono zH fun b hb _=>hb,r.c.mono MX fun b hb _=>hb,r.f.mono (nD _) fun b hb _=>hb,r.g.mono (nD _) fun b hb _=>hb⟩ h1.keep qx
  (repeat' (first|refine dO ?_|refine jJ ?_))
  refine Wd.of ?_
  refine aj ?_
  (repeat' (refine ai ?_))
  refine au (u:=pT bw) rfl (h5.cell (o:=0) rfl) ?_
  skip
  refine dh h4 rfl rfl ?_
  skip
  refine ay (Oj (lo:=w.heap.size) (Pb:=fun b=>w.heap.size≤b∧b≠w11.heap.size∧b≠w11.heap.size+1∧b≠b8) (fun b hb=>hb.1) (fun b hb=>⟨by omega,by omega,by omega,by omega⟩) hok hco hgl rW g hN hb hst) rfl ?_
  rintro _ W1 ⟨N1,g1,hN1,hb1,hst1,c1⟩
  have h51:=h5.chg c1 fun e=>e.2.2.2 rfl
  have hD1:=(c1.block _ (Array.getElem?_eq_some_iff.1 hDf).1 fun e=>e.2.1 rfl).trans hDf
  have n1':New w W1:=(Chg.trans (M:=fun k=>w.heap.size≤k) h1.any c1 fun k _ e=>e.1).toNew fun k hk e=>by omega
  clear h1 h4 h5 g hb hst hnv hDf c1 rW
  generalize hD0:w11.heap.size=D at*
  obtain ⟨na,nc,rfl,_,_⟩:=g1.nd.row.form
  have hnl:=g1.nl
  (repeat' (first|refine af ?_|refine ah ?_|refine aj ?_|refine ai ?_))
  refine au (u:=pT bw) rfl (h51.cell (o:=0) rfl) ?_
  (repeat' (first|refine bI rfl ?_|refine aa5 ?_))
  refine au (u:=.slice na N1.length nc) rfl (g1.b.cell (o:=0) rfl) ?_
  (repeat' (first|refine aa0 ?_|refine af ?_|refine aO rfl ?_|refine ah ?_|refine Wc.block ?_))
  refine aU (σ:=Nat×Value) (fun q=>[(8,pT b8),(142,.slice na N1.length nc),(143,vi N1.length),(144,vi q.1)])
   (fun q W'=>q.1≤N1.length∧WkM (fun b=>w.heap.size≤b∧b≠D∧b≠D+1∧b≠b8) bw bm N1 ((List.range q.1).filter fun i=>decide ((nX G i).reason=0)) L (.slice na N1.length nc) q.2 W'∧Bk W' b8 42 [pT bw]∧W'.heap[D]? =some (.deferred (some []))∧New w W') (fun q=>N1.length-q.1)
   (0,.slice none 0 0) ⟨rfl,rfl,rfl,rfl,trivial⟩ ⟨Nat.zero_le _,g1,h51,hD1,n1'⟩ ?_
  clear g1 h51 hD1 n1'
  rintro ⟨k,ov⟩ G2 W2 ⟨hk,g2,h52,hD2,n2⟩
  dsimp only at hk g2 h52 hD2 n2
  simp only [oO]
  have TY:=(Array.getElem?_eq_some_iff.1 hD2).1
  obtain ⟨oa,oc,rfl,hol,agH⟩:=g2.od.form
  (repeat' (first|refine aa0 ?_|refine af ?_|refine ah ?_|refine aj ?_|refine ai ?_|refine Wc.block ?_|refine Wc.skip ?_|refine aQ ?_|refine aS ?_|refine aP ?_|refine aT ?_|refine aa3 ?_|refine aa4 ?_|refine aa9 (fun _=>?_) (fun _=>?_)))
  ·obtain ⟨x,hx⟩:=nN N1 (k:=k) (by omega)
   have hxb:=rJ hx
   rw [hb1] at hxb
   refine bD (g2.nd.row.rd (nP nbC)) rfl rfl (by omega) (by rw [Int.toNat_natCast];exact hx) fun b o cs hl hR hat=>?_
   obtain rfl:cs=nbC x:=hR
   refine bQ hat rfl rfl ?_
   clear hat
   refine Wl.alloc fun w5' b5' n5' s5'=>?_
   (repeat' (refine aa1 ?_))
   refine aX (new:=nbC x) b5' rfl rfl rfl rfl (show (9:Nat)≤9 from Nat.le_refl 9) (Ud x) fun w6' b6' c6' s6'=>?_
   have n6':New W2 w6':=(Chg.trans n5'.any c6' fun _ _ e=>e).toNew fun k hk e=>by omega
   replace b6':Bk w6' W2.heap.size 118 (nbC x):=b6'
   clear b5' n5' c6'
   have g6:=g2.new n6'
   have h56:=h52.chg n6' fun e=>e
   have hz6:=n6'.size
   (repeat' (first|refine af ?_|refine ah ?_|refine aj ?_|refine ai ?_|refine aa5 ?_))
   refine au (u:=.int .u8 x.bn.reason) rfl (b6'.cell (o:=3) rfl) ?_
   have hnx:(List.range (k+1)).filter (fun i=>decide ((nX G i).reason=0))=(List.range k).filter (fun i=>decide ((nX G i).reason=0))++if x.bn.reason=0 then [k] else []:=by
    rw [List.range_succ,List.filter_append,List.filter_cons,List.filter_nil,hxb]
    by_cases h0:x.bn.reason=0
    ·rw [if_pos h0,if_pos (decide_eq_true h0)]
    ·rw [if_neg h0,if_neg (by rw [decide_eq_false h0];decide)]
   have hrl:((List.range k).filter fun i=>decide ((nX G i).reason=0)).length≤k:=Nat.le_trans (List.length_filter_le _ _) (by rw [List.length_range];exact Nat.le_refl _)
   (repeat' (first|refine aa0 ?_|refine af ?_|refine ah ?_|refine ai ?_|refine Wc.skip ?_|refine aJ ?_|refine aa3 ?_|refine aa4 ?_|refine aa7 ?_|refine bV rfl rfl (fun _=>?_) (fun _=>?_)))
   ·rw [if_pos (by omega)] at hnx
    have Xw: ∀W',Chg (fun j=>(Value.slice oa ((List.range k).filter fun i=>decide ((nX G i).reason=0)).length oc).ownBlock=some j) w6' W'→Bk W' b8 42 [pT bw]:=fun W' c=>h56.chg c fun e=>g6.od.pR h56 rfl e rfl
    have Zb: ∀W',Chg (fun j=>(Value.slice oa ((List.range k).filter fun i=>decide ((nX G i).reason=0)).length oc).ownBlock=some j) w6' W'→Bk W' bw 108 [.slice na N1.length nc,.slice oa ((List.range k).filter fun i=>decide ((nX G i).reason=0)).length oc,.map (some bm)]:=fun W' c=>g6.b.chg c fun e=>g6.od.pR g6.b rfl e rfl
    refine cO rfl (by kernel_rfl) (fun W'=>Chg (fun j=>(Value.slice oa ((List.range k).filter fun i=>decide ((nX G i).reason=0)).length oc).ownBlock=some j) w6' W') (Chg.drew _ _) ?_
    intro W7 m7
    skip
    refine aa2 (aB (u:=pT bw) rfl (fun W' c=>(Xw W' c).cell (o:=0) rfl) (ak ?_))
    refine aa2 (aB (u:=pT bw) rfl (fun W' c=>(Xw W' c).cell (o:=0) rfl) (ak ?_))
    (repeat' (first|refine aa2 (bF rfl (ak ?_))|refine aa2 (pK (ak ?_))))
    refine aa2 (aB (u:=.slice oa ((List.range k).filter fun i=>decide ((nX G i).reason=0)).length oc) rfl (fun W' c=>(Zb W' c).cell (o:=1) rfl) (ak ?_))
    (repeat' (refine aa2 (pF (ak ?_))))
    refine bC rfl (dB (R:=Wk.one viN) (Pe:=NoB) (y:=k) qJ rfl rfl rfl rfl (by omega) (by omega) fun v8 W8 o8 n8 s8 e8=>?_)
    have m8:=New.trans m7 n8
    refine af ⟨rfl,m8.any,?_⟩
    refine bC rfl (dH (R:=Wk.one viN) qJ (g6.od.new (mZ _) m8) (o8.rd qJ.mo) (fun z cs hz=>hz) rfl rfl (by omega) (by simp only [maxLen,List.length_singleton];omega) (by simp only [List.length_singleton];omega) fun u' W9 o9 c9 lie _=>?_)
    have c69:Chg (fun j=>(Value.slice oa ((List.range k).filter fun i=>decide ((nX G i).reason=0)).length oc).ownBlock=some j) w6' W9:=Chg.trans m8.any c9 fun _ _ e=>e
    refine af ⟨rfl,c69,?_⟩
    (repeat' (first|refine aa2 (bF rfl (ak ?_))|refine aa2 (pK (ak ?_))))
    rw [←hnx] at o9
    obtain ⟨ua,uc,rfl,_,_⟩:=o9.form
    refine Wt.last rfl (bH (u:=.slice ua _ uc) (Zb W9 c69) rfl (show (1:Nat)<3 by omega) rfl rfl fun W10 Xv Aw=>?_)
    refine af ?_
    have ad3:=m8.size
    have gN:=g6.Y7 (o9.mono (Pb':=fun b=>w.heap.size≤b∧b≠D∧b≠D+1∧b≠b8) (nD _) (fun b _ e=>by rcases e with e|e;exact e;exact ⟨by omega,by omega,by omega,by omega⟩) (fun _ _ e=>e)) c69 (lie.imp id fun h k hk=>by have:=h k hk;omega) Xv Aw
    have ad5:=Xw W9 c69
    have hDo: ∀j,(Value.slice oa ((List.range k).filter fun i=>decide ((nX G i).reason=0)).length oc).ownBlock=some j→w.heap.size≤j∧j≠D:=fun j e=>⟨(g2.od.lt e).1.1,(g2.od.lt e).1.2.1⟩
    have Xx:=g2.lo2.1
    (repeat' (first|refine aa0 ?_|refine af ?_|refine ah ?_|refine ai ?_|refine aJ ?_|refine aa7 ?_))
    refine aK (k+1,_) ⟨rfl,rfl,rfl,rfl,trivial⟩ ⟨by dsimp only;omega,gN,ad5.chg Aw fun e=>Xx.2.2.2 e.symm,?_,?_⟩ (by dsimp only;omega)
    ·rw [Aw.block _ (by have:=c69.size;omega) fun e=>Xx.2.1 e.symm,c69.block _ (by omega) fun e=>(hDo _ e).2 rfl,n6'.block _ TY id]
     exact hD2
    ·exact (Chg.trans (M:=fun k=>w.heap.size≤k) (Chg.trans (M:=fun k=>w.heap.size≤k) (New.trans n2 n6').any c69 fun k _ e=>(hDo k e).1) Aw fun k _ e=>by have:=Xx.1;omega).toNew fun k hk e=>by omega
   ·rw [if_neg (by omega),List.append_nil] at hnx
    refine aK (k+1,_) ⟨rfl,rfl,rfl,rfl,trivial⟩ ⟨by dsimp only;omega,by rw [hnx];exact g6,h56,(n6'.block _ TY id).trans hD2,New.trans n2 n6'⟩ (by dsimp only;omega)
  ·obtain rfl:k=N1.length:=by omega
   have hrl:((List.range N1.length).filter fun i=>decide ((nX G i).reason=0)).length≤N1.length:=Nat.le_trans (List.length_filter_le _ _) (by rw [List.length_range];exact Nat.le_refl _)
   have hmem: ∀i∈(List.range N1.length).filter (fun i=>decide ((nX G i).reason=0)),i<N1.length:=fun i hi=>List.mem_range.1 (List.mem_filter.1 hi).1
   have hpt: ∀i,i<N1.length→(nX G i).path=oz G.tree i:=fun i hi=>by rw [Aa (by omega)];rfl
   refine au (u:=pT bw) rfl (h52.cell (o:=0) rfl) ?_
   (repeat' (first|refine bI rfl ?_|refine aa5 ?_))
   refine au (u:=.slice oa ((List.range N1.length).filter fun i=>decide ((nX G i).reason=0)).length oc) rfl (g2.b.cell (o:=1) rfl) ?_
   refine dL (f1:=[]) (c1:=[pT b8]) rfl rfl ?_
   refine ay (Bl (g:=49) (cb:= #[pT b8]) (lv:=fun i=>(nX G i).level) (pt:=fun i=>(nX G i).path) g2.od (fun x hx y hy e=>DU hok (by have:=hmem x hx;omega) (by have:=hmem y hy;omega) (by rw [←hpt x (hmem x hx), ←hpt y (hmem y hy)];exact e)) (by omega) fun w' hw x hx y hy=>?_) rfl ?_
   ·refine (QT (N:=N1) (a:=x) (c:=y) (b8:=b8) (bw:=bw) (na:=na) (nc:=nc) (mv:=.map (some bm)) hnl (g2.b.chg hw fun e=>g2.od.pR g2.b rfl e rfl) ((g2.nd.row.chg (mV nbC) hw fun k hk e=>g2.nd.row.uz g2.od rfl k hk e).rd (nP nbC)) (h52.chg hw fun e=>g2.od.pR h52 rfl e rfl) (hmem x hx) (hmem y hy)).mono ?_
    rintro _ w'' ⟨_,rfl,rfl,h⟩
    rw [hb1]
    exact ⟨rfl,h⟩
   rintro _ W3 ⟨os,c3⟩
   have g3:=g2.Y7 os c3 (.inl rfl) (g2.b.chg c3 fun e=>g2.od.pR g2.b rfl e rfl) (aV _ _)
   have h53:=h52.chg c3 fun e=>g2.od.pR h52 rfl e rfl
   have hD3:=(c3.block _ TY fun e=>(g2.od.lt e).1.2.1 rfl).trans hD2
   have n3:New w W3:=(Chg.trans (M:=fun k=>w.heap.size≤k) n2.any c3 fun k _ e=>(g2.od.lt e).1.1).toNew fun k hk e=>by omega
   (repeat' (first|refine af ?_|refine ah ?_|refine aj ?_|refine ai ?_))
   refine au (u:=pT bw) rfl (h53.cell (o:=0) rfl) ?_
   (repeat' (first|refine aa1 ?_|refine af ?_|refine ah ?_|refine ax ?_))
   refine Qdn.e ?_
   refine jK (by simp) hD3 ?_
   refine gG (sD rfl (qo rfl) (qo rfl)) ⟨_,rfl,?_,n3.put _ (by omega)⟩
   rw [if_pos hE]
   refine ⟨bw,bm,N1,L,.slice na N1.length nc,.slice oa ((List.range N1.length).filter fun i=>decide ((nX G i).reason=0)).length oc,rfl,?_,by omega,hb1,hst1,fun s=>?_⟩
   ·have:=(g3.chg (Chg.putObj W3 D (.deferred none)) fun k hk e=>hk.2.1 e).mono (Pb':=fun b=>w.heap.size≤b) fun b _ e=>e.1
    unfold pX
    rw [←hN1]
    exact this
   ·cases hf:flF L s with
    |true=>
     obtain ⟨p,hp,e⟩:=List.any_eq_true.1 hf
     have e:=(of_decide_eq_true e).1
     exact (List.contains_iff_mem.2 (e▸(cn.mem p hp).2.2)).symm
    |false=>
     cases hc:G.fails.contains s with
     |false=>rfl
     |true=>
      obtain ⟨c,hcm⟩:=cn.all s (List.contains_iff_mem.1 hc)
      have h1:=(cn.mem _ hcm).1
      rw [Pv cn.nd hcm,decide_eq_true (by dsimp only at h1;omega)] at hf
      cases hf
 ·exact fun _ h=>h.elim
 ·exact fun _ _ h=>h.elim
end
end Go.Proofs.YtjecgaiaiophpaaGreatDoor
namespace Go.Proofs.YtjecgaiaiophpaaGreatDoor
open Go Wk
theorem Ol {N:Nat→Bn} {fl:Nm→Bool} {S S':St} {i:Nat} (h:qE N fl S i=some S'):S i=0∧S' i≠0∧ ∀k,S k≠0→S' k≠0:=by
 unfold qE at h
 split at h
 ·rename_i hc
  cases h
  refine ⟨hc.2.1,?_,fun k hk=>?_⟩
  ·dsimp only
   rw [if_pos rfl]
   split<;>omega
  ·dsimp only
   split
   ·split<;>omega
   ·exact hk
 ·cases h
theorem vT {N:Nat→Bn} {fl:Nm→Bool}: ∀(l:List Nat) (S:St),(∀k,S k≠0→(oh N fl l S).2 k≠0)∧ ∀j∈(oh N fl l S).1.tried,j∈l∧S j=0∧(oh N fl l S).2 j≠0
 | [],S=>⟨fun k h=>by rw [oh];exact h,fun j hj=>by rw [oh] at hj;cases hj⟩
 |i::r,S=>by
  rw [sQ]
  by_cases h0:S i≠0
  ·rw [if_pos h0]
   obtain ⟨h1,h2⟩:=vT (N:=N) (fl:=fl) r S
   exact ⟨h1,fun j hj=>⟨List.mem_cons_of_mem _ (h2 j hj).1,(h2 j hj).2⟩⟩
  ·rw [if_neg h0]
   cases hl:qE N fl S i with
   |none=>
    obtain ⟨h1,h2⟩:=vT (N:=N) (fl:=fl) r S
    exact ⟨h1,fun j hj=>⟨List.mem_cons_of_mem _ (h2 j hj).1,(h2 j hj).2⟩⟩
   |some S'=>
    obtain ⟨h1,h2⟩:=vT (N:=N) (fl:=fl) r S'
    obtain ⟨k0,k1,k2⟩:=Ol hl
    refine ⟨fun k hk=>h1 k (k2 k hk),fun j hj=>?_⟩
    rcases List.mem_cons.1 hj with e|hj
    ·subst e
     exact ⟨List.mem_cons_self,k0,h1 _ k1⟩
    ·obtain ⟨a1,a2,a3⟩:=h2 j hj
     refine ⟨List.mem_cons_of_mem _ a1,?_,a3⟩
     exact Decidable.byContradiction fun e=>k2 j e a2
theorem xu {N:Nat→Bn} {fl:Nm→Bool}: ∀(l:List Nat) (S:St),(oh N fl l S).1.tried.length+(oh N fl l S).1.waits.length≤l.length
 | [],S=>by rw [oh];simp
 |i::r,S=>by
  rw [sQ]
  by_cases h0:S i≠0
  ·rw [if_pos h0]
   have:=xu (N:=N) (fl:=fl) r S
   rw [List.length_cons];omega
  ·rw [if_neg h0]
   cases hl:qE N fl S i with
   |none=>
    have:=xu (N:=N) (fl:=fl) r S
    simp only [List.length_cons];omega
   |some S'=>
    have:=xu (N:=N) (fl:=fl) r S'
    simp only [List.length_cons];omega
theorem y5 {N:Nat→Bn} {fl:Nm→Bool}: ∀(l:List Nat) (S:St),(∀k,S k≤2)→ ∀k,(oh N fl l S).2 k≤2
 | [],S,h,k=>by rw [oh];exact h k
 |i::r,S,h,k=>by
  rw [sQ]
  by_cases h0:S i≠0
  ·rw [if_pos h0];exact y5 r S h k
  ·rw [if_neg h0]
   cases hl:qE N fl S i with
   |none=>exact y5 r S h k
   |some S'=>
    have:=LG (N:=N) (fl:=fl) (i:=i) h
    rw [hl] at this
    exact y5 r S' this k
def left0 (l:List Nat) (S:St):Nat:=(l.filter fun i=>S i == 0).length
theorem filter_lt {α:Type} {p q:α→Bool}: ∀ {l:List α},(∀x∈l,q x=true→p x=true)→(∃x∈l,p x=true∧q x=false)→(l.filter q).length<(l.filter p).length
 | [],_,h=>by obtain ⟨x,hx,_⟩:=h;cases hx
 |a::r,hs,h=>by
  have hr:(r.filter q).length≤(r.filter p).length:=by
   have:r.filter q=(r.filter p).filter q:=by
    rw [List.filter_filter]
    apply List.filter_congr
    intro x hx
    cases hq:q x with
    |false=>rfl
    |true=>rw [hs x (List.mem_cons_of_mem _ hx) hq];rfl
   rw [this];exact List.length_filter_le _ _
  obtain ⟨x,hx,hp,hq⟩:=h
  rcases List.mem_cons.1 hx with e|hx
  ·subst e
   rw [List.filter_cons,List.filter_cons,hp,hq]
   simp only [Bool.false_eq_true,if_false,if_true,List.length_cons]
   omega
  ·have:=filter_lt (p:=p) (q:=q) (fun y hy=>hs y (List.mem_cons_of_mem _ hy)) ⟨x,hx,hp,hq⟩
   rw [List.filter_cons,List.filter_cons]
   cases hqa:q a with
   |false=>
    simp only [Bool.false_eq_true,if_false]
    split
    ·simp only [List.length_cons];omega
    ·exact this
   |true=>
    rw [hs a List.mem_cons_self hqa]
    simp only [if_true,List.length_cons];omega
theorem Om {N:Nat→Bn} {fl:Nm→Bool} {l:List Nat} {S:St} (h:(oh N fl l S).1.tried≠ []):left0 l (oh N fl l S).2<left0 l S:=by
 obtain ⟨h1,h2⟩:=vT (N:=N) (fl:=fl) l S
 obtain ⟨j,hj⟩:=List.exists_mem_of_ne_nil _ h
 obtain ⟨a1,a2,a3⟩:=h2 j hj
 refine filter_lt (fun x _ hx=>?_) ⟨j,a1,by simpa using a2,by simpa using a3⟩
 have hx:=eq_of_beq hx
 exact beq_iff_eq.2 (Decidable.byContradiction fun e=>h1 x e hx)
end Go.Proofs.YtjecgaiaiophpaaGreatDoor
namespace Go.Proofs.YtjecgaiaiophpaaGreatDoor
open Go Wk
open Go.RowKit (Below)
attribute [local irreducible] Go.Calls
theorem Wk.results3 {P:Program} {n:Nat} {F:Fr} {w:World} {fn:Func} {a b c:ResultVar} {u v x:Value} (h:fn.results= #[a,b,c]) (h1:(FO (arr n F) a).run P w=.ok u w) (h2:(FO (arr n F) b).run P w=.ok v w) (h3:(FO (arr n F) c).run P w=.ok x w):(results fn (arr n F)).run P w=.ok (.tuple #[u,v,x]) w:=by
 rw [Bv,h]
 simp [h1,h2,h3]
section
variable {Pb:Nat→Prop} {w:World} {g:Giv} {tv cv fv gv:Value}
theorem Q9 (h:RdG Pb w g tv cv fv gv) (hok:nV g.tree=true)
 (hnew: ∀w',New w w'→Calls Tryz.prog 13 #[.agg #[tv,cv,fv,gv]] w' (Ret fun r w''=>Px g w'.heap.size r w''∧New w' w'')):
 Calls Tryz.prog 39 #[.agg #[tv,cv,fv,gv]] w (Ret fun r w'=>LH g w.heap.size r w'∧New w w'):=by
 obtain ⟨ta,tc,rfl,_,_⟩:=h.t.form
 obtain ⟨ca,cc,rfl,_,_⟩:=h.c.form
 obtain ⟨fa,fc,rfl,_,_⟩:=h.f.form
 obtain ⟨ga,gc,rfl,_,_⟩:=h.g.form
 refine mQ Tryz.func39 rfl Tryz.ntmps39 rfl ?_
 (repeat' (first|refine aj ?_|refine ai ?_))
 refine bJ rfl fun w1 b1 n1 s1=>?_
 replace b1:Bk w1 w.heap.size 27 [.slice ta g.tree.length tc,.slice ca g.cards.length cc,.slice fa g.fails.length fc,.slice ga g.gone.length gc]:=b1
 refine Wl.alloc fun w2 b2 n2 s2=>?_
 replace b2:Bk w2 w1.heap.size 33 [.slice none 0 0,.slice none 0 0,.slice none 0 0,.slice none 0 0]:=b2
 (repeat' (first|refine aa1 ?_|refine af ?_|refine ah ?_|refine aj ?_|refine ai ?_))
 refine dh (b1.chg n2 fun e=>e) rfl rfl ?_
 refine ay (hnew w2 (New.trans n1 n2)) rfl ?_
 rintro _ w3 ⟨⟨bw,bm,N,fl,nv,ov,rfl,gW,hN,hbn,hst,hfl⟩,n3⟩
 (repeat' (first|refine aa0 ?_|refine aa1 ?_|refine af ?_|refine aa8 ?_|refine ah ?_|refine aj ?_|refine ai ?_|refine Wc.skip ?_|refine aa4 ?_|(refine pV (fun _=>?_) (fun _=>?_)<;>(first|(exfalso;omega)|skip))))
 refine Wl.alloc fun w4 b7 n4 s4=>?_
 replace b7:Bk w4 w3.heap.size 33 [.slice none 0 0,.slice none 0 0,.slice none 0 0,.slice none 0 0]:=b7
 have hz1:=n1.size
 have hz2:=n2.size
 have hz3:=n3.size
 have n04:=New.trans (New.trans n1 n2) (New.trans n3 n4)
 have b1':=b1.chg (New.trans n2 (New.trans n3 n4)) fun e=>e
 have b2':=b2.chg (New.trans n3 n4) fun e=>e
 have hb1:=b1.lt
 have hb2:=b2.lt
 have hb7:=b7.lt
 have gW4:=(gW.mono (Pb':=fun b=>w2.heap.size≤b∧b<w3.heap.size) fun b hb e=>⟨e,hb⟩).new n4
 have hol:(pX (nX g) g.tree.length).length≤g.tree.length:=by
  unfold pX
  rw [List.length_mergeSort]
  exact Nat.le_trans (List.length_filter_le _ _) (by rw [List.length_range];exact Nat.le_refl _)
 have hin: ∀i∈pX (nX g) g.tree.length,i<g.tree.length∧(nX g i).reason=0:=fun i hi=>by
  have:=List.mem_filter.1 (List.mem_mergeSort.1 hi)
  exact ⟨List.mem_range.1 this.1,of_decide_eq_true this.2⟩
 have htl:g.tree.length≤512:=by rw [←hN];exact gW4.nl
 have Zc:stF N=S0:=by funext i;exact hst i
 obtain ⟨DG,hDG⟩: ∃x,x=doneGo (nX g) (flF fl) (pX (nX g) g.tree.length) (g.tree.length+1) S0:=⟨_,rfl⟩
 (repeat' (first|refine af ?_|refine ah ?_))
 refine aj ?_
 refine Wc.block ?_
 refine aU (σ:=Nat×List Nb×List Rnd×Value) (fun q=>[(1,pT w.heap.size),(2,pT w1.heap.size),(5,pT bw),(7,pT w3.heap.size)])
  (fun q w'=>WkM (fun b=>w2.heap.size≤b∧b<w3.heap.size) bw bm q.2.1 (pX (nX g) g.tree.length) fl nv ov w'∧q.2.1.length=g.tree.length∧bnF q.2.1=nX g∧(∀i,stF q.2.1 i≤2)∧left0 (pX (nX g) g.tree.length) (stF q.2.1)<q.1∧q.2.2.1.length+q.1≤g.tree.length+1∧DG=(q.2.2.1++(doneGo (nX g) (flF fl) (pX (nX g) g.tree.length) q.1 (stF q.2.1)).1,(doneGo (nX g) (flF fl) (pX (nX g) g.tree.length) q.1 (stF q.2.1)).2)∧Bk w' w3.heap.size 33 [.slice none 0 0,q.2.2.2,.slice none 0 0,.slice none 0 0]∧ny rRd 76 2 (fun b=>w4.heap.size≤b) (fun b=>w4.heap.size≤b) w' q.2.2.2 q.2.2.1∧Bk w' w.heap.size 27 [.slice ta g.tree.length tc,.slice ca g.cards.length cc,.slice fa g.fails.length fc,.slice ga g.gone.length gc]∧Bk w' w1.heap.size 33 [.slice none 0 0,.slice none 0 0,.slice none 0 0,.slice none 0 0]∧w4.heap.size≤w'.heap.size∧New w w') (fun q=>q.1)
  (g.tree.length+1,N,[],.slice none 0 0) ⟨rfl,rfl,rfl,rfl,trivial⟩ ⟨gW4,hN,hbn,fun i=>by rw [hst i];omega,by
    have:left0 (pX (nX g) g.tree.length) (stF N)≤(pX (nX g) g.tree.length).length:=List.length_filter_le _ _
    show left0 (pX (nX g) g.tree.length) (stF N)<g.tree.length+1
    omega,by simp,by rw [hDG,Zc];rfl,b7,bK,b1',b2',Nat.le_refl _,n04⟩ ?_
 clear gW4 gW b7 b1' b2' hst Zc n04 hN hbn
 rintro ⟨f,N1,acc,bv⟩ G w5 ⟨g5,hN,hbn,hst,hlf,hal,hgo,b7,ob,b1',b2',hz5,n05⟩
 dsimp only at g5 hN hbn hst hlf hal hgo b7 ob b1' b2' hz5 n05
 simp only [oO]
 obtain ⟨f,rfl⟩: ∃k,f=k+1:=⟨f-1,by omega⟩
 rw [zY] at hgo
 obtain ⟨ba,bc,rfl,_,_⟩:=ob.form
 (repeat' (first|refine aa0 ?_|refine aj ?_|refine ai ?_|refine Wc.block ?_))
 refine ay (NZ g5 (fun i hi=>by rw [hN,hbn];exact hin i hi) hst (by omega)) rfl ?_
 rintro _ w6 ⟨N2,tr,wr,rfl,g6,hl6,hb6,hs6,ot,ow,c6⟩
 rw [hbn] at hs6 ot ow
 have n56:New w w6:=Chg.trans n05 c6 fun k hk e=>by
  have h1:=(g5.nd.row.lt e).1.1
  omega
 have hnv: ∀k,nv.ownBlock=some k→w2.heap.size≤k∧k<w3.heap.size:=fun k e=>(g5.nd.row.lt e).1
 have b76:=b7.chg c6 fun e=>by have:=hnv _ e;omega
 have b16:=b1'.chg c6 fun e=>by have:=hnv _ e;omega
 have b26:=b2'.chg c6 fun e=>by have:=hnv _ e;omega
 have ob6:=ob.uV BL c6 (fun k hk e=>by have h9:w4.heap.size≤k:=(ob.lt hk).1;have:=hnv _ e;omega) (fun k hk _ e=>by have h9:w4.heap.size≤k:=hk;have:=hnv _ e;omega)
 have Xy: ∀k,(Value.slice ba acc.length bc).ownBlock=some k→k<w5.heap.size:=fun k hk=>(ob.lt hk).2
 have hz6:=c6.size
 clear g5 b7 b1' b2' ob n05 c6
 have hrl:=xu (N:=nX g) (fl:=flF fl) (pX (nX g) g.tree.length) (stF N1)
 have hle:=y5 (N:=nX g) (fl:=flF fl) (pX (nX g) g.tree.length) (stF N1) hst
 have hrs:=Om (N:=nX g) (fl:=flF fl) (l:=pX (nX g) g.tree.length) (S:=stF N1)
 rw [←hs6] at hgo hrs hle
 generalize hR:(oh (nX g) (flF fl) (pX (nX g) g.tree.length) (stF N1)).1=R at*
 obtain ⟨ra,rc,rfl,_,_⟩:=ot.form
 obtain ⟨ua,uc,rfl,_,_⟩:=ow.form
 refine Wl.alloc fun w7 b8 n7 s7=>?_
 refine aX (new:=[.slice ra R.tried.length rc,.slice ua R.waits.length uc]) b8 rfl rfl rfl rfl (show (2:Nat)≤2 from Nat.le_refl 2) (by intro c hc;simp at hc;rcases hc with rfl|rfl<;>rfl) fun w8 b8' c8 s8=>?_
 replace b8':Bk w8 w6.heap.size 76 [.slice ra R.tried.length rc,.slice ua R.waits.length uc]:=b8'
 have n68:New w6 w8:=(Chg.trans n7.any c8 fun _ _ e=>e).toNew fun k hk e=>by omega
 clear b8 n7 c8
 (repeat' (first|refine af ?_|refine ah ?_))
 have hz8:=n68.size
 have g8:=g6.new n68
 have b78:=b76.chg n68 fun e=>e
 have b18:=b16.chg n68 fun e=>e
 have b28:=b26.chg n68 fun e=>e
 have ob8:=ob6.uV BL n68 (fun _ _ e=>e) (fun _ _ _ e=>e)
 have ot8:=ot.new (mZ _) n68
 have ow8:=ow.new (mV wtC) n68
 have n08:=New.trans n56 n68
 clear g6 b76 b16 b26 ob6 ot ow n56 n68
 refine eY (fun F W=> ∃bv',agrees F [(1,pT w.heap.size),(2,pT w1.heap.size),(5,pT bw),(7,pT w3.heap.size),(8,pT w6.heap.size)]∧WkM (fun b=>w2.heap.size≤b∧b<w3.heap.size) bw bm N2 (pX (nX g) g.tree.length) fl nv ov W∧Bk W w6.heap.size 76 [.slice ra R.tried.length rc,.slice ua R.waits.length uc]∧Bk W w3.heap.size 33 [.slice none 0 0,bv',.slice none 0 0,.slice none 0 0]∧ny rRd 76 2 (fun b=>w4.heap.size≤b) (fun b=>w4.heap.size≤b) W bv' (acc++if R.tried=[]∧R.waits=[] then [] else [R])∧Bk W w.heap.size 27 [.slice ta g.tree.length tc,.slice ca g.cards.length cc,.slice fa g.fails.length fc,.slice ga g.gone.length gc]∧Bk W w1.heap.size 33 [.slice none 0 0,.slice none 0 0,.slice none 0 0,.slice none 0 0]∧w4.heap.size≤W.heap.size∧New w W) ?_ ?_
 ·(repeat' (first|refine aj ?_|refine ai ?_|refine aa5 ?_))
  refine au (u:=.slice ra R.tried.length rc) rfl (b8'.cell (o:=0) rfl) ?_
  (repeat' (first|refine aO rfl ?_|refine aa5 ?_))
  refine au (u:=.slice ua R.waits.length uc) rfl (b8'.cell (o:=1) rfl) ?_
  (repeat' (first|refine af ?_|refine aO rfl ?_|refine ah ?_|refine ai ?_|refine Wc.skip ?_|refine aa3 ?_|refine aa4 ?_|refine aa5 ?_|refine aa7 ?_|refine bM rfl rfl (fun _=>?_) (fun _=>?_)))
  ·have hne: ¬(R.tried=[]∧R.waits=[]):=fun e=>by
    have e1:=congrArg List.length e.1
    have e2:=congrArg List.length e.2
    simp only [List.length_nil] at e1 e2
    omega
   refine au (u:=.slice ba acc.length bc) rfl (b78.cell (o:=1) rfl) ?_
   skip
   refine dh b8' rfl rfl ?_
   refine dF (R:=rRd) (y:=R) BL ob8 rfl rfl rfl rfl ⟨_,_,rfl,ot8.mono (nD _) (fun b hb e=>?_) (fun _ _ e=>e),ow8.mono (nP wtC) (fun b hb e=>?_) (fun _ _ e=>e)⟩ (by omega) (by omega) (by simp only [maxLen];omega) (by omega) rfl rfl fun v9 w9 p o9 c9 lie=>?_
   ·have h9:w5.heap.size≤b:=e
    exact ⟨by omega,fun h=>by have:=Xy b h;omega⟩
   ·have h9:w5.heap.size≤b:=e
    exact ⟨by omega,fun h=>by have:=Xy b h;omega⟩
   have hz9:=c9.size
   have hab: ∀k,(Value.slice ba acc.length bc).ownBlock=some k→w4.heap.size≤k:=fun k hk=>(ob8.lt hk).1
   have b79:=b78.chg c9 fun e=>by have:=hab _ e;omega
   (repeat' (refine aa5 ?_))
   refine bH (u:=v9) b79 rfl (show (1:Nat)<4 by omega) rfl (by obtain ⟨_,_,rfl,_⟩:=o9.form;rfl) fun w10 b10 c10=>?_
   have Xe:=c10.size
   (repeat' (refine af ?_))
   refine dw ⟨v9,⟨rfl,rfl,rfl,rfl,rfl,trivial⟩,(g8.chg c9 fun k hk e=>by have:=hab k e;have:=hk.2;omega).chg c10 (fun k hk e=>by have:=hk.2;omega),(b8'.chg c9 fun e=>by have:=Xy _ e;omega).chg c10 (fun e=>by omega),b10,?_,(b18.chg c9 fun e=>by have:=hab _ e;omega).chg c10 (fun e=>by omega),(b28.chg c9 fun e=>by have:=hab _ e;omega).chg c10 (fun e=>by omega),by omega,(Chg.trans (Chg.trans (M:=fun k=>w4.heap.size≤k∨k=w3.heap.size) n08.any c9 fun k _ e=>.inl (hab k e)) c10 fun k _ e=>.inr e).toNew fun k hk e=>by omega⟩
   rw [if_neg hne]
   exact (o9.mono Jy (fun b _ e=>by rcases e with e|e;exact e;omega) (fun _ _ e=>e)).uV BL c10 (fun k hk e=>by rcases (o9.lt hk).1 with h|h<;>omega) (fun k hk _ e=>by have h9:w4.heap.size≤k:=hk;omega)
  ·have h1:R.tried=[]:=List.length_eq_zero_iff.1 (by omega)
   have h2:R.waits=[]:=List.length_eq_zero_iff.1 (by omega)
   exact dw ⟨_,⟨rfl,rfl,rfl,rfl,rfl,trivial⟩,g8,b8',b78,by rw [if_pos ⟨h1,h2⟩,List.append_nil];exact ob8,b18,b28,by omega,n08⟩
 ·rintro F W ⟨bv',hF,gW,b8,b7,ob',b1',b2',hzW,nW⟩
  rw [←oD hF]
  simp only [oO]
  clear hF
  (repeat' (first|refine aj ?_|refine ai ?_|refine aa5 ?_))
  refine au (u:=.slice ra R.tried.length rc) rfl (b8.cell (o:=0) rfl) ?_
  (repeat' (first|refine aa0 ?_|refine af ?_|refine aO rfl ?_|refine ah ?_|refine aj ?_|refine ai ?_|refine Wc.skip ?_|refine aQ ?_|refine aJ ?_|refine aP ?_|refine iW rfl ?_|refine aT ?_|refine aa3 ?_|refine aa4 ?_|refine bV rfl rfl (fun _=>?_) (fun _=>?_)))
  ·have hR0:R.tried=[]:=List.length_eq_zero_iff.1 (by omega)
   rw [if_pos hR0] at hgo
   refine ay (QR gW) rfl ?_
   rintro rv w11 ⟨orw,n11⟩
   have TA:=n11.size
   have orv: ∃a c,rv=.slice a (rowsOf (bnF N2) (stF N2) N2.length).length c:=by obtain ⟨a,c,e,_⟩:=orw.form;exact ⟨a,c,e⟩
   obtain ⟨rwa,rwc,rfl⟩:=orv
   (repeat' (refine aa5 ?_))
   refine bH (u:=.slice rwa (rowsOf (bnF N2) (stF N2) N2.length).length rwc) (b7.chg n11 fun e=>e) rfl (show (0:Nat)<4 by omega) rfl rfl fun w12 b12 c12=>?_
   have YI:=c12.size
   have g12:=(gW.new n11).chg c12 fun k hk e=>by have:=hk.2;omega
   have hN2:N2.length=g.tree.length:=by omega
   obtain ⟨na,nc,rfl,_,_⟩:=g12.nd.row.form
   (repeat' (first|refine aa0 ?_|refine af ?_|refine ah ?_|refine aj ?_|refine ai ?_|refine bI rfl ?_|refine aa5 ?_))
   refine au (u:=.slice na N2.length nc) rfl (g12.b.cell (o:=0) rfl) ?_
   (repeat' (refine aO rfl ?_))
   refine eF (f:=vbo) (y0:=false) (Pe:=NoB) rfl rfl rfl (by omega) (by omega) (by omega) fun dv w13 o13 n13=>?_
   rw [Int.toNat_natCast] at o13
   have agI:=n13.size
   have g13:=g12.new n13
   have Zd:ny (Wk.one vbo) 4 1 (fun b=>w12.heap.size≤b) NoB w13 dv (List.replicate N2.length false):=o13
   obtain ⟨da,dc,hdv,_,_⟩:=Zd.form
   rw [List.length_replicate] at hdv
   subst hdv
   (repeat' (first|refine aa0 ?_|refine aa1 ?_|refine af ?_|refine ah ?_|refine aj ?_|refine ai ?_|refine bI rfl ?_|refine aa5 ?_))
   refine au (u:=.slice na N2.length nc) rfl (g13.b.cell (o:=0) rfl) ?_
   (repeat' (first|refine aa0 ?_|refine af ?_|refine aO rfl ?_|refine ah ?_|refine Wc.block ?_))
   refine aU (σ:=Nat×List Bool) (fun q=>[(1,pT w.heap.size),(2,pT w1.heap.size),(5,pT bw),(7,pT w3.heap.size),(9,.slice da N2.length dc),(53,.slice na N2.length nc),(54,vi N2.length),(55,vi q.1)])
    (fun q W'=>q.1≤N2.length∧q.2.length=N2.length∧(∀k,k<q.1→q.2[k]? =some (stF N2 k == 1))∧ny (Wk.one vbo) 4 1 (fun b=>w12.heap.size≤b) NoB W' (.slice da N2.length dc) q.2∧Chg (fun k=>(Value.slice da N2.length dc).ownBlock=some k) w13 W') (fun q=>N2.length-q.1)
    (0,List.replicate N2.length false) ⟨rfl,rfl,rfl,rfl,rfl,rfl,rfl,rfl,trivial⟩ ⟨Nat.zero_le _,by simp,fun k hk=>by omega,Zd,aV _ _⟩ ?_
   rintro ⟨k,B⟩ G2 w14 ⟨hk,hBl,hB,oB,c14⟩
   dsimp only at hk hBl hB oB c14
   simp only [oO]
   have hdb: ∀j,(Value.slice da N2.length dc).ownBlock=some j→w12.heap.size≤j:=fun j e=>(oB.lt e).1
   have g14:=g13.chg c14 fun j hj e=>by have:=hdb j e;have:=hj.2;omega
   (repeat' (first|refine aa0 ?_|refine af ?_|refine ah ?_|refine aj ?_|refine ai ?_|refine Wc.block ?_|refine Wc.skip ?_|refine aQ ?_|refine aS ?_|refine aP ?_|refine aT ?_|refine aa3 ?_|refine aa4 ?_|refine aa5 ?_|refine aa9 (fun _=>?_) (fun _=>?_)))
   ·obtain ⟨x,hx⟩:=nN N2 (k:=k) (by omega)
    have hne:B≠ []:=by intro e;rw [e] at hBl;simp at hBl;omega
    obtain ⟨dg,dc',hde,_,agJ,_⟩:=oB.blk hne
    rw [hBl] at hde
    cases hde
    refine bD (g14.nd.row.rd (nP nbC)) rfl rfl (by omega) (by rw [Int.toNat_natCast];exact hx) fun b o cs hl hR hat=>?_
    obtain rfl:cs=nbC x:=hR
    refine bQ hat rfl rfl ?_
    clear hat
    refine Wl.alloc fun w15 b5 n15 s15=>?_
    (repeat' (refine aa1 ?_))
    refine aX (new:=nbC x) b5 rfl rfl rfl rfl (show (9:Nat)≤9 from Nat.le_refl 9) (Ud x) fun w16 b5' c16 s16=>?_
    replace b5':Bk w16 w14.heap.size 118 (nbC x):=b5'
    have Ze:New w14 w16:=(Chg.trans n15.any c16 fun _ _ e=>e).toNew fun k hk e=>by omega
    clear b5 n15 c16
    (repeat' (first|refine aa0 ?_|refine af ?_|refine ah ?_|refine ai ?_|refine aa5 ?_))
    refine au (u:=.bool (x.st == 1)) rfl (b5'.cell (o:=7) rfl) ?_
    skip
    refine dQ rfl rfl (by omega) (by omega) ?_
    refine eX (f:=vbo) (q:=(x.st == 1)) (j:=k) (cap:=dc) (oB.new (mZ _) Ze) (by rw [hBl]) (by omega) (by show Value.pointer (some ⟨dg,0+(k:Int).toNat*1,none⟩)=_;simp) rfl rfl rfl fun w17 o17 c17=>?_
    (repeat' (first|refine aa0 ?_|refine af ?_|refine ah ?_|refine ai ?_|refine aJ ?_|refine aa7 ?_))
    refine aK (k+1,B.set k (x.st == 1)) ⟨rfl,rfl,rfl,rfl,rfl,rfl,rfl,rfl,trivial⟩ ⟨by dsimp only;omega,by dsimp only;rw [List.length_set];exact hBl,fun j hj=>?_,o17,Chg.trans (Chg.trans c14 Ze.any fun _ _ e=>e) c17 fun _ _ e=>e⟩ (by dsimp only;omega)
    dsimp only at hj ⊢
    rw [List.getElem?_set]
    by_cases e:k=j
    ·subst e
     rw [if_pos rfl,if_pos (by omega),vS hx]
    ·rw [if_neg e]
     exact hB j (by omega)
   ·obtain rfl:k=N2.length:=by omega
    have agK:w.heap.size≤w2.heap.size:=by omega
    have Zf:New w w14:=(Chg.trans (Chg.trans (Chg.trans (M:=fun k=>k=w3.heap.size∨w12.heap.size≤k) (New.trans nW n11).any c12 fun k _ e=>.inl e) n13.any fun _ _ e=>e) c14 fun k _ e=>.inr (hdb k e)).toNew fun k hk e=>by omega
    have hWn:w3.heap.size<W.heap.size:=by omega
    have b1e:=((((b1'.chg n11 fun e=>e).chg c12 fun e=>by omega).chg n13 fun e=>e).chg c14 fun e=>by have:=hdb _ e;omega)
    skip
    refine au (u:=.slice ta g.tree.length tc) rfl (b1e.cell (o:=0) rfl) ?_
    (repeat' (refine aa0 ?_))
    have hBt: ∀k,thM B k=(stF N2 k == 1):=fun k=>by
     unfold thM
     by_cases hk:k<N2.length
     ·rw [hB k hk];rfl
     ·rw [List.getElem?_eq_none (by omega)]
      unfold stF
      rw [List.getD_eq_getElem?_getD,List.getElem?_eq_none (by omega)];rfl
    refine ay (QL (h.t.keep nO Zf.keep) (oB.rd BH.mo) hok (by omega)) rfl ?_
    rintro _ w18 ⟨⟨q1,q2,rfl,hq1,hq2⟩,n18⟩
    obtain ⟨qa,qc,rfl,_,_⟩:=hq1.form
    obtain ⟨ra2,rc2,rfl,_,_⟩:=hq2.form
    have adh:=c14.size
    have b7e:=((b12.chg n13 fun e=>e).chg c14 fun e=>by have:=hdb _ e;omega).chg n18 fun e=>e
    (repeat' (first|refine aa0 ?_|refine aa8 ?_|refine aa5 ?_))
    refine bH (u:=.slice qa _ qc) b7e rfl (show (2:Nat)<4 by omega) rfl rfl fun w19 b19 c19=>?_
    (repeat' (refine aa5 ?_))
    refine bH (u:=.slice ra2 _ rc2) b19 rfl (show (3:Nat)<4 by omega) rfl rfl fun w20 b20 c20=>?_
    (repeat' (first|refine af ?_|refine ah ?_|refine aj ?_|refine ai ?_))
    refine dh b20 rfl rfl ?_
    have b2e:=((((((b2'.chg n11 fun e=>e).chg c12 fun e=>by omega).chg n13 fun e=>e).chg c14 fun e=>by have:=hdb _ e;omega).chg n18 fun e=>e).chg c19 fun e=>by omega).chg c20 fun e=>by omega
    (repeat' (refine aa0 ?_))
    refine aX (new:=[.slice rwa (rowsOf (bnF N2) (stF N2) N2.length).length rwc,bv',.slice qa _ qc,.slice ra2 _ rc2]) b2e rfl rfl rfl rfl (show (4:Nat)≤4 from Nat.le_refl 4) (by obtain ⟨_,_,rfl,_,_⟩:=ob'.form;intro c hc;simp at hc;rcases hc with rfl|rfl|rfl|rfl<;>rfl) fun w21 b21 c21 s21=>?_
    have afO:=n13.size
    have agL:=n18.size
    have c18:Chg (fun k=>k=w3.heap.size∨k=w1.heap.size) w18 w21:=Chg.trans (Chg.trans (c19.mono fun k _ e=>.inl e) c20 fun k _ e=>.inl e) c21 fun k _ e=>.inr e
    have Zg:Chg (fun k=>k=w3.heap.size∨k=w1.heap.size∨w12.heap.size≤k) w11 w14:=Chg.trans (Chg.trans (c12.mono fun k _ e=>.inl e) n13.any fun k _ e=>e) c14 fun k _ e=>.inr (.inr (hdb k e))
    have c11:Chg (fun k=>k=w3.heap.size∨k=w1.heap.size∨w12.heap.size≤k) w11 w21:=Chg.trans (Chg.trans Zg n18.any fun k _ e=>e) c18 fun k _ e=>e.elim .inl fun e=>.inr (.inl e)
    have cW:Chg (fun k=>k=w3.heap.size∨k=w1.heap.size) W w21:=Chg.trans n11.any c11 fun k hk e=>by rcases e with e|e|e;exact .inl e;exact .inr e;omega
    have ad6:flF fl=g.fails.contains:=funext hfl
    have hDM:rC (nX g) g.fails.contains g.tree.length=DG:=by rw [←ad6,hDG];rfl
    have Zh:bnF N2=nX g:=hb6.trans hbn
    have hth:(fun k=>(rC (nX g) g.fails.contains g.tree.length).2 k == 1)=thM B:=funext fun k=>by rw [hBt k,hDM,hgo]
    have hrw:rowsOf (nX g) (rC (nX g) g.fails.contains g.tree.length).2 g.tree.length=rowsOf (bnF N2) (stF N2) N2.length:=by rw [hDM,hgo,Zh,hN2]
    have ex: ∀k,(fun b=>w14.heap.size≤b) k→ ¬(k=w3.heap.size∨k=w1.heap.size):=fun k hk e=>by have hk:w14.heap.size≤k:=hk;omega
    (repeat' (first|refine aa1 ?_|refine af ?_|refine ah ?_|refine ax ?_))
    refine eP (results3 rfl (rO rfl rfl b21 rfl) (qo rfl) (qo rfl)) ⟨_,rfl,⟨_,_,_,_,bw,bm,N2,fl,.slice na N2.length nc,ov,rfl,⟨?_,?_,?_,?_⟩,?_,hN2,Zh,fun i _=>by rw [hDM,hgo],hfl⟩,?_⟩
    ·rw [hrw]
     exact (orw.chg (mV rwC) c11 fun k hk e=>by have h9:=orw.lt hk;have:W.heap.size≤k:=h9.1;omega).mono (nP rwC) (fun b _ e=>by have e:W.heap.size≤b:=e;show w.heap.size≤b;omega) (fun _ _ e=>e)
    ·rw [hDM,hgo]
     exact (ob'.uV BL cW (fun k hk e=>by have h9:w4.heap.size≤k:=(ob'.lt hk).1;omega) (fun k hk _ e=>by have h9:w4.heap.size≤k:=hk;omega)).mono Jy (fun b _ e=>by have e:w4.heap.size≤b:=e;show w.heap.size≤b;omega) (fun b _ e=>by have e:w4.heap.size≤b:=e;show w.heap.size≤b;omega)
    ·rw [hth]
     exact (hq1.keep rP (c18.keep fun b _ hb=>ex b hb)).mono qB fun b _ e=>by have e:w14.heap.size≤b:=e;show w.heap.size≤b;omega
    ·rw [hth]
     exact (hq2.keep rP (c18.keep fun b _ hb=>ex b hb)).mono qB fun b _ e=>by have e:w14.heap.size≤b:=e;show w.heap.size≤b;omega
    ·exact ((g14.new n18).chg c18 fun k hk e=>by have:=hk.1;have:=hk.2;omega).mono fun b _ e=>by have:=e.1;show w.heap.size≤b;omega
    ·exact (Chg.trans (M:=fun k=>w.heap.size≤k) (New.trans Zf n18).any c18 fun k _ e=>by omega).toNew fun k hk e=>by omega
  ·have hR1:R.tried≠ []:=fun e=>by have:=congrArg List.length e;simp only [List.length_nil] at this;omega
   rw [if_neg hR1] at hgo
   have agM:=hrs hR1
   refine aK (f,N2,acc++(if R.tried=[]∧R.waits=[] then [] else [R]),_) ⟨rfl,rfl,rfl,rfl,trivial⟩ ⟨gW,by dsimp only;omega,hb6.trans hbn,hle,by dsimp only;omega,?_,?_,b7,ob',b1',b2',hzW,nW⟩ (by dsimp only;omega)
   ·dsimp only
    rw [List.length_append]
    split
    ·rw [List.length_nil];omega
    ·rw [List.length_singleton];omega
   ·dsimp only
    rw [hgo,List.append_assoc]
end
end Go.Proofs.YtjecgaiaiophpaaGreatDoor
namespace Go.Proofs.YtjecgaiaiophpaaGreatDoor
open Go Wk
open Go.RowKit (Below)
attribute [local irreducible] Go.Calls
structure Oo (g:Giv):Prop where
 f: ∀x∈g.fails,x.length≤100000000
 g: ∀x∈g.gone,x.length≤100000000
noncomputable abbrev wM (g:Giv):List Rnd×St:=rC (nX g) g.fails.contains g.tree.length
noncomputable abbrev wO (g:Giv):List Rws:=rowsOf (nX g) (wM g).2 g.tree.length
noncomputable abbrev V8 (g:Giv):List Ed×List Ed:=Di g.tree fun k=>(wM g).2 k == 1
abbrev Az:List Value:=[.slice none 0 0,.slice none 0 0,.slice none 0 0,.slice none 0 0]
theorem Ez: ∀c∈Az,c.oneCell'=true:=by
 intro c hc
 simp at hc
 rw [hc];rfl
theorem G7 {w:World}:(Instr.build 33 #[]).run Tryz.prog w=.ok (.agg Az.toArray) w:=by
 kernel_rfl
section
variable {Pb:Nat→Prop} {w:World} {g:Giv} {tv cv fv gv:Value}
theorem Us (h:RdG Pb w g tv cv fv gv) (sh:Oo g) (he:qf g≠0):
 Calls Tryz.prog 39 #[.agg #[tv,cv,fv,gv]] w (Ret fun r w'=>r=.tuple #[.agg Az.toArray,.pointer none,vi (qf g)]∧New w w'):=by
 obtain ⟨ta,tc,rfl,_,_⟩:=h.t.form
 obtain ⟨ca,cc,rfl,_,_⟩:=h.c.form
 obtain ⟨fa,fc,rfl,_,_⟩:=h.f.form
 obtain ⟨ga,gc,rfl,_,_⟩:=h.g.form
 refine mQ Tryz.func39 rfl Tryz.ntmps39 rfl ?_
 (repeat' (first|refine aj ?_|refine ai ?_))
 refine bJ rfl fun w1 b1 n1 s1=>?_
 replace b1:Bk w1 w.heap.size 27 [.slice ta g.tree.length tc,.slice ca g.cards.length cc,.slice fa g.fails.length fc,.slice ga g.gone.length gc]:=b1
 refine Wl.alloc fun w2 b2 n2 s2=>?_
 replace b2:Bk w2 w1.heap.size 33 Az:=b2
 have n02:=New.trans n1 n2
 (repeat' (first|refine aa1 ?_|refine af ?_|refine ah ?_|refine aj ?_|refine ai ?_))
 refine dh (b1.chg n2 fun e=>e) rfl rfl ?_
 refine ay (Gw (h.keep n02.keep qx) sh.f sh.g) rfl ?_
 rintro _ w3 ⟨hr,n3⟩
 rw [if_neg he] at hr
 subst hr
 have hz1:=n1.size
 (repeat' (first|refine aa0 ?_|refine aa1 ?_|refine af ?_|refine aa8 ?_|refine ah ?_|refine aj ?_|refine ai ?_|refine aa3 ?_|(refine pV (fun _=>?_) (fun _=>?_)<;>(first|(exfalso;omega)|skip))))
 refine fE (ps:=[]) (parts:=[]) rfl G7 ?_
 (repeat' (refine aa0 ?_))
 refine aX (new:=Az) (b2.chg n3 fun e=>e) rfl rfl rfl rfl (show (4:Nat)≤4 from Nat.le_refl 4) Ez fun w4 b4 c4 s4=>?_
 (repeat' (first|refine aa1 ?_|refine af ?_|refine ah ?_|refine ax ?_|refine aN ?_))
 exact eP (results3 rfl (rO rfl rfl b4 rfl) (qo rfl) (qo rfl)) ⟨_,rfl,rfl,(Chg.trans (M:=fun k=>k=w1.heap.size) (New.trans n02 n3).any c4 fun k _ e=>e).toNew fun k hk e=>by omega⟩
theorem D6 (h:RdG Pb w g tv cv fv gv) (sh:Oo g):
 Calls Tryz.prog 39 #[.agg #[tv,cv,fv,gv]] w (Ret fun r w'=>(if qf g=0 then LH g w.heap.size r w' else r=.tuple #[.agg Az.toArray,.pointer none,vi (qf g)])∧New w w'):=by
 by_cases he:qf g=0
 ·refine (Q9 h (xh.1 he).1 fun w' n=>?_).mono ?_
  ·refine (Gw (h.keep n.keep qx) sh.f sh.g).mono ?_
   rintro _ w'' ⟨r,rfl,h1,h2⟩
   rw [if_pos he] at h1
   exact ⟨r,rfl,h1,h2⟩
  ·rintro _ w'' ⟨r,rfl,h1,h2⟩
   exact ⟨r,rfl,by rw [if_pos he];exact h1,h2⟩
 ·refine (Us h sh he).mono ?_
  rintro _ w'' ⟨r,rfl,h1,h2⟩
  exact ⟨r,rfl,by rw [if_neg he];exact h1,h2⟩
def sH (g:Giv) (lo:Nat) (r:Value) (w':World):Prop:=
 if qf g=0 then ∃a b c d,r=.tuple #[.agg #[a,b,c,d],vi 0]∧RdR (fun b=>lo≤b) w' (wO g) (wM g).1 (V8 g).1 (V8 g).2 a b c d
 else r=.tuple #[.agg Az.toArray,vi (qf g)]
theorem RdR.form {Pb:Nat→Prop} {w:World} {rw:List Rws} {rs:List Rnd} {us ds:List Ed} {a b c d:Value} (h:RdR Pb w rw rs us ds a b c d):(∃p q,a=.slice p rw.length q)∧(∃p q,b=.slice p rs.length q)∧(∃p q,c=.slice p us.length q)∧ ∃p q,d=.slice p ds.length q:=by
 obtain ⟨p1,q1,e1,_⟩:=h.rows.form
 obtain ⟨p2,q2,e2,_⟩:=h.rounds.form
 obtain ⟨p3,q3,e3,_⟩:=h.used.form
 obtain ⟨p4,q4,e4,_⟩:=h.drop.form
 exact ⟨⟨_,_,e1⟩,⟨_,_,e2⟩,⟨_,_,e3⟩,⟨_,_,e4⟩⟩
theorem RdR.new {Pb:Nat→Prop} {w w':World} {rw:List Rws} {rs:List Rnd} {us ds:List Ed} {a b c d:Value} (h:RdR Pb w rw rs us ds a b c d) (n:New w w'):RdR Pb w' rw rs us ds a b c d:=
 ⟨h.rows.new (mV _) n,h.rounds.uV BL n (fun _ _ e=>e) (fun _ _ _ e=>e),h.used.keep rP n.keep,h.drop.keep rP n.keep⟩
theorem RdR.mono {Pb Pb':Nat→Prop} {w:World} {rw:List Rws} {rs:List Rnd} {us ds:List Ed} {a b c d:Value} (h:RdR Pb w rw rs us ds a b c d) (hP: ∀b,b<w.heap.size→Pb b→Pb' b):RdR Pb' w rw rs us ds a b c d:=
 ⟨h.rows.mono (nP _) hP (fun _ _ e=>e),h.rounds.mono Jy hP hP,h.used.mono qB hP,h.drop.mono qB hP⟩
theorem RdR.chg {Pb M:Nat→Prop} {w w':World} {rw:List Rws} {rs:List Rnd} {us ds:List Ed} {a b c d:Value} (h:RdR Pb w rw rs us ds a b c d) (n:Chg M w w') (hd: ∀k,Pb k→ ¬M k):RdR Pb w' rw rs us ds a b c d:=
 ⟨h.rows.chg (mV _) n fun k hk=>hd k (h.rows.lt hk).1,h.rounds.uV BL n (fun k hk=>hd k (h.rounds.lt hk).1) (fun k hk _=>hd k hk),h.used.keep rP (n.keep fun b _ hb=>hd b hb),h.drop.keep rP (n.keep fun b _ hb=>hd b hb)⟩
theorem sS (h:RdG Pb w g tv cv fv gv) (sh:Oo g):
 Calls Tryz.prog 11 #[.agg #[tv,cv,fv,gv]] w (Ret fun r w'=>sH g w.heap.size r w'∧New w w'):=by
 obtain ⟨ta,tc,rfl,_,_⟩:=h.t.form
 obtain ⟨ca,cc,rfl,_,_⟩:=h.c.form
 obtain ⟨fa,fc,rfl,_,_⟩:=h.f.form
 obtain ⟨ga,gc,rfl,_,_⟩:=h.g.form
 refine mQ Tryz.func11 rfl Tryz.ntmps11 rfl ?_
 (repeat' (first|refine aj ?_|refine ai ?_))
 refine bJ rfl fun w1 b1 n1 s1=>?_
 replace b1:Bk w1 w.heap.size 27 [.slice ta g.tree.length tc,.slice ca g.cards.length cc,.slice fa g.fails.length fc,.slice ga g.gone.length gc]:=b1
 refine Wl.alloc fun w2 b2 n2 s2=>?_
 replace b2:Bk w2 w1.heap.size 33 Az:=b2
 have n02:=New.trans n1 n2
 have hz1:=n1.size
 have hz2:=n2.size
 (repeat' (first|refine aa1 ?_|refine af ?_|refine ah ?_|refine aj ?_|refine ai ?_))
 refine dh (b1.chg n2 fun e=>e) rfl rfl ?_
 refine ay (D6 (h.keep n02.keep qx) sh) rfl ?_
 rintro _ w3 ⟨hr,n3⟩
 have hz3:=n3.size
 unfold sH
 by_cases he:qf g=0
 ·rw [if_pos he] at hr
  obtain ⟨a,b,c,d,bw,bm,N,fl,nv,ov,rfl,hR,_⟩:=hr
  obtain ⟨⟨p1,q1,rfl⟩,⟨p2,q2,rfl⟩,⟨p3,q3,rfl⟩,⟨p4,q4,rfl⟩⟩:=hR.form
  (repeat' (first|refine aa0 ?_|refine aa8 ?_))
  refine Wl.alloc fun w4 b4 n4 s4=>?_
  refine aX (new:=[.slice p1 _ q1,.slice p2 _ q2,.slice p3 _ q3,.slice p4 _ q4]) b4 rfl rfl rfl rfl (show (4:Nat)≤4 from Nat.le_refl 4) (by intro c hc;simp at hc;rcases hc with rfl|rfl|rfl|rfl<;>rfl) fun w5 b5 c5 s5=>?_
  have n35:New w3 w5:=(Chg.trans n4.any c5 fun _ _ e=>e).toNew fun k hk e=>by omega
  (repeat' (first|refine aa1 ?_|refine af ?_|refine ah ?_|refine aj ?_|refine ai ?_))
  refine dh b5 rfl rfl ?_
  (repeat' (refine aa0 ?_))
  refine aX (new:=[.slice p1 _ q1,.slice p2 _ q2,.slice p3 _ q3,.slice p4 _ q4]) ((b2.chg n3 fun e=>e).chg n35 fun e=>e) rfl rfl rfl rfl (show (4:Nat)≤4 from Nat.le_refl 4) (by intro c hc;simp at hc;rcases hc with rfl|rfl|rfl|rfl<;>rfl) fun w6 b6 c6 s6=>?_
  have hb2:=b2.lt
  (repeat' (first|refine aa1 ?_|refine af ?_|refine ah ?_|refine ax ?_))
  refine eP (sD rfl (rO rfl rfl b6 rfl) (qo rfl)) ⟨_,rfl,?_,(Chg.trans (M:=fun k=>k=w1.heap.size) (New.trans (New.trans n02 n3) n35).any c6 fun k _ e=>e).toNew fun k hk e=>by omega⟩
  rw [if_pos he]
  refine ⟨.slice p1 _ q1,.slice p2 _ q2,.slice p3 _ q3,.slice p4 _ q4,rfl,((hR.new n35).chg c6 fun k hk e=>?_).mono fun b _ e=>?_⟩
  ·have hk:w2.heap.size≤k:=hk
   omega
  ·have e:w2.heap.size≤b:=e
   show w.heap.size≤b
   omega
 ·rw [if_neg he] at hr
  subst hr
  (repeat' (first|refine aa0 ?_|refine aa8 ?_))
  refine Wl.alloc fun w4 b4 n4 s4=>?_
  refine aX (new:=Az) b4 rfl rfl rfl rfl (show (4:Nat)≤4 from Nat.le_refl 4) Ez fun w5 b5 c5 s5=>?_
  have n35:New w3 w5:=(Chg.trans n4.any c5 fun _ _ e=>e).toNew fun k hk e=>by omega
  (repeat' (first|refine aa1 ?_|refine af ?_|refine ah ?_|refine aj ?_|refine ai ?_))
  refine dh b5 rfl rfl ?_
  (repeat' (refine aa0 ?_))
  refine aX (new:=Az) ((b2.chg n3 fun e=>e).chg n35 fun e=>e) rfl rfl rfl rfl (show (4:Nat)≤4 from Nat.le_refl 4) Ez fun w6 b6 c6 s6=>?_
  have hb2:=b2.lt
  (repeat' (first|refine aa1 ?_|refine af ?_|refine ah ?_|refine ax ?_))
  refine eP (sD rfl (rO rfl rfl b6 rfl) (qo rfl)) ⟨_,rfl,?_,(Chg.trans (M:=fun k=>k=w1.heap.size) (New.trans (New.trans n02 n3) n35).any c6 fun k _ e=>e).toNew fun k hk e=>by omega⟩
  rw [if_neg he]
  rfl
end
end Go.Proofs.YtjecgaiaiophpaaGreatDoor
namespace Go.Proofs.YtjecgaiaiophpaaGreatDoor
open Go Wk
open Go.RowKit (Below)
attribute [local irreducible] Go.Calls
structure RcS (W0:World) (nf:FuncId) (xJ:Array Value) (b1 b2 b3:Nat) (sv:Value) (W:World):Prop where
 n:New W0 W
 v1:Bk W b1 163 [.func (.func nf) #[] xJ]
 v2:Bk W b2 128 [sv]
 v3:Bk W b3 233 [.func (.func 126) #[] #[pT b1,pT b2,pT b3]]
theorem RcS.new {W0 W W':World} {nf:FuncId} {xJ:Array Value} {b1 b2 b3:Nat} {sv:Value} (h:RcS W0 nf xJ b1 b2 b3 sv W) (c:New W W'):RcS W0 nf xJ b1 b2 b3 sv W':=
 ⟨New.trans h.n c,h.v1.chg c fun e=>e,h.v2.chg c fun e=>e,h.v3.chg c fun e=>e⟩
theorem RcS.chg {W0 W W':World} {nf:FuncId} {xJ:Array Value} {b1 b2 b3:Nat} {sv:Value} {S:List Bool} {Pb:Nat→Prop} (h:RcS W0 nf xJ b1 b2 b3 sv W) (own:ny (Wk.one vbo) 4 1 Pb NoB W sv S) (hlo: ∀k,sv.ownBlock=some k→W0.heap.size≤k) (c:Chg (fun k=>sv.ownBlock=some k) W W'):RcS W0 nf xJ b1 b2 b3 sv W':=
 ⟨(Chg.trans h.n.any c fun k _ e=>e).toNew fun k hk e=>by have:=hlo k e;omega,h.v1.chg c fun e=>own.pR h.v1 rfl e rfl,h.v2.chg c fun e=>own.pR h.v2 rfl e rfl,h.v3.chg c fun e=>own.pR h.v3 rfl e rfl⟩
def Ut (W0:World) (nf:FuncId) (xJ:Array Value) (n:Nat) (Wn:Nat→List Nat):Prop:= ∀W,New W0 W→ ∀i,i<n→Calls Tryz.prog nf (vi i::xJ.toList).toArray W (Ret fun v W'=>RdS (Wk.one viN) 1 (fun b=>W.heap.size≤b∨b<W0.heap.size) W' v (Wn i)∧New W W')
theorem JC {b1 b2 b3 n:Nat} {nf:FuncId} {xJ:Array Value} {sv:Value} {W0:World} {Wn:Nat→List Nat} [mX Tryz.prog nf]
 (hnx:Ut W0 nf xJ n Wn) (hIn: ∀i,i<n→ ∀k∈Wn i,k<n) (hn:n≤512) (hlo: ∀k,sv.ownBlock=some k→W0.heap.size≤k):
 ∀(N:Nat) (w:World) (S:List Bool) (i:Nat),opn S≤N→i<n→S.length=n→RcS W0 nf xJ b1 b2 b3 sv w→ny (Wk.one vbo) 4 1 (fun b=>W0.heap.size≤b) NoB w sv S→
  Calls Tryz.prog 126 #[vi i,pT b1,pT b2,pT b3] w (Ret fun _ w'=> ∃S',Mrk Wn i (Wn i) S S'∧ny (Wk.one vbo) 4 1 (fun b=>W0.heap.size≤b) NoB w' sv S'∧Chg (fun k=>sv.ownBlock=some k) w w'):=by
 intro N
 induction N using Nat.strongRecOn with
 |ind N IH=>
  intro w S i hN hi hS rc own
  refine mQ Tryz.func126 rfl Tryz.ntmps126 rfl ?_
  (repeat' (first|refine aj ?_|refine ai ?_))
  refine au (u:=.func (.func nf) #[] xJ) rfl (rc.v1.cell (o:=0) rfl) ?_
  (repeat' (refine aa0 ?_))
  refine dG (f:=nf) (first:= #[]) (cap:=xJ) (vs:=vi i::xJ.toList) rfl (hnx w rc.n i hi) rfl ?_
  rintro lv w1 ⟨hl,n1⟩
  have hsl0: ∀k,sv.ownBlock=some k→k<w.heap.size:=fun k hk=>(own.lt hk).2
  obtain ⟨xa,xc,rfl,Xk,TT⟩:=hl.form
  simp only [maxLen] at TT
  replace hl:=hl.mono (Pb':=fun b=> ¬sv.ownBlock=some b) (nD _) fun b _ hb e=>by
   have h1:=hlo b e
   have h2:=hsl0 b e
   rcases hb with hb|hb<;>omega
  have rc0:=rc.new n1
  have U5:=own.new (mZ _) n1
  clear rc own
  (repeat' (first|refine aa0 ?_|refine af ?_|refine aO rfl ?_|refine ah ?_|refine Wc.block ?_))
  refine aU (σ:=Nat×List Bool) (fun q=>[(1,pT b1),(2,pT b2),(3,pT b3),(9,.slice xa (Wn i).length xc),(10,vi (Wn i).length),(11,vi q.1)])
   (fun q W=>q.1≤(Wn i).length∧Mrk Wn i ((Wn i).take q.1) S q.2∧ny (Wk.one vbo) 4 1 (fun b=>W0.heap.size≤b) NoB W sv q.2∧RcS W0 nf xJ b1 b2 b3 sv W∧Chg (fun k=>sv.ownBlock=some k) w1 W) (fun q=>(Wn i).length-q.1) (0,S) ⟨rfl,rfl,rfl,rfl,rfl,rfl,trivial⟩ ⟨Nat.zero_le _,jP ..,U5,rc0,aV _ _⟩ ?_
  rintro ⟨j,S1⟩ G W ⟨hj,hM,xI,rc1,c1⟩
  dsimp only at hj hM xI rc1 c1
  simp only [oO]
  have hl1:S1.length=n:=by rw [hM.len];exact hS
  obtain ⟨sg,scp,hsv,hsl,hsl2,adF⟩:=xI.blk (by intro e;rw [e] at hl1;simp at hl1;omega)
  have hlW:=hl.keep (nT _) (c1.keep fun b _ hb=>hb)
  (repeat' (first|refine af ?_|refine ah ?_|refine aj ?_|refine ai ?_|refine Wc.block ?_|refine Wc.skip ?_|refine aQ ?_|refine aS ?_|refine aP ?_|refine aT ?_|refine aa3 ?_|refine aa4 ?_|refine aa9 (fun _=>?_) (fun _=>?_)))
  ·obtain ⟨k,hk⟩:=nN (Wn i) (k:=j) (by omega)
   have hkm:=List.mem_of_getElem? hk
   have hkl:=hIn i hi k hkm
   refine bY hlW rfl rfl (by omega) (by rw [Int.toNat_natCast];exact hk) fun b o hcell=>?_
   refine au (u:=vi k) rfl hcell ?_
   (repeat' (first|refine aa1 ?_|refine af ?_|refine ah ?_|refine aj ?_|refine ai ?_))
   refine au (u:=sv) rfl (rc1.v2.cell (o:=0) rfl) ?_
   (repeat' (refine aa0 ?_))
   obtain ⟨mb,hmb⟩:=nN S1 (k:=k) (by omega)
   refine bY (xI.rd BH.mo) rfl rfl (by omega) (by rw [Int.toNat_natCast];exact hmb) fun b o hcell=>?_
   refine au (u:=.bool mb) rfl hcell ?_
   cases mb
   ·(repeat' (first|refine af ?_|refine aZ rfl ?_|refine ah ?_|refine aj ?_|refine ai ?_|refine aa3 ?_))
    refine au (u:=sv) rfl (rc1.v2.cell (o:=0) rfl) ?_
    (repeat' (refine aa0 ?_))
    rw [hl1] at hsv
    refine dQ (b:=sg) (off:=0) (l:=n) (cap:=scp) hsv rfl (by omega) (by omega) ?_
    refine eX (f:=vbo) (q:=true) (j:=k) (cap:=scp) xI (by rw [hl1];exact hsv) (by omega) (by show Value.pointer (some ⟨sg,0+(k:Int).toNat*1,none⟩)=_;simp) rfl rfl rfl fun w2 o2 c2=>?_
    have rc2:=rc1.chg xI hlo c2
    (repeat' (first|refine af ?_|refine ah ?_|refine ai ?_))
    refine au (u:=.func (.func 126) #[] #[pT b1,pT b2,pT b3]) rfl (rc2.v3.cell (o:=0) rfl) ?_
    (repeat' (refine aa0 ?_))
    have hop:=Pj hmb
    have hop1:=hM.opn
    refine dG (dst:=some 25) rfl (IH (opn (S1.set k true)) (by omega) w2 (S1.set k true) k (Nat.le_refl _) hkl (by rw [List.length_set];exact hl1) rc2 o2) rfl ?_
    rintro u w3 ⟨S3,hM3,o3,c3⟩
    simp only [zy]
    have rc3:=rc2.chg o2 hlo c3
    (repeat' (first|refine aa0 ?_|refine af ?_|refine ah ?_|refine ai ?_|refine aJ ?_|refine aa7 ?_))
    refine aK (j+1,S3) ⟨rfl,rfl,rfl,rfl,rfl,rfl,trivial⟩ ⟨by dsimp only;omega,?_,o3,rc3,Chg.trans (Chg.trans c1 c2 fun _ _ e=>e) c3 fun _ _ e=>e⟩ (by dsimp only;omega)
    dsimp only
    rw [take_snoc hk]
    exact hM.step hkm (by omega) hM3
   ·(repeat' (first|refine aa0 ?_|refine af ?_|refine aZ rfl ?_|refine ah ?_|refine ai ?_|refine Wc.skip ?_|refine aJ ?_|refine aa4 ?_|refine aa7 ?_))
    refine aK (j+1,S1) ⟨rfl,rfl,rfl,rfl,rfl,rfl,trivial⟩ ⟨by dsimp only;omega,?_,xI,rc1,c1⟩ (by dsimp only;omega)
    dsimp only
    rw [take_snoc hk]
    exact hM.skip hmb
  ·obtain rfl:j=(Wn i).length:=by omega
   rw [List.take_length] at hM
   exact dI rfl ⟨_,rfl,S1,hM,xI,Chg.trans n1.any c1 fun _ _ e=>e⟩
end Go.Proofs.YtjecgaiaiophpaaGreatDoor
namespace Go.Proofs.YtjecgaiaiophpaaGreatDoor
open Go Wk
open Go.RowKit (Below)
open Classical
attribute [local irreducible] Go.Calls
noncomputable def LQ (W:Nat→List Nat) (n i:Nat):List Nat:=(List.range n).filter fun k=>decide (Rch W i k)
theorem Rf (W:Nat→List Nat) (k i:Nat):LQ W (k+1) i=LQ W k i++if Rch W i k then [k] else []:=by
 unfold LQ
 rw [Gv,List.filter_append]
 congr 1
 by_cases h:Rch W i k
 ·rw [if_pos h];simp [h]
 ·rw [if_neg h];simp [h]
theorem Uu (W:Nat→List Nat) (n i:Nat):(LQ W n i).length≤n:=by
 have:=List.length_filter_le (fun k=>decide (Rch W i k)) (List.range n)
 rwa [List.length_range] at this
theorem LU {n i:Nat} {nf:FuncId} {xJ:Array Value} {w:World} {Wn:Nat→List Nat} [mX Tryz.prog nf] (hnx:Ut w nf xJ n Wn) (hIn: ∀i,i<n→ ∀k∈Wn i,k<n) (hn:n≤512) (hi:i<n):
 Calls Tryz.prog 74 #[vi n,vi i,.func (.func nf) #[] xJ] w (Ret fun r w'=>ny (Wk.one viN) 3 1 (fun b=>w.heap.size≤b) NoB w' r (LQ Wn n i)∧New w w'):=by
 refine mQ Tryz.func74 rfl Tryz.ntmps74 rfl ?_
 (repeat' (first|refine aj ?_|refine ai ?_))
 refine bJ rfl fun w1 b1 n1 s1=>?_
 replace b1:Bk w1 w.heap.size 163 [.func (.func nf) #[] xJ]:=b1
 (repeat' (first|refine aa0 ?_|refine aa1 ?_|refine af ?_|refine ah ?_|refine aj ?_|refine ai ?_))
 refine eF (f:=vbo) (y0:=false) (Pe:=NoB) rfl rfl rfl (by omega) (by omega) (by omega) fun sv w2 o2 n2=>?_
 rw [Int.toNat_natCast] at o2
 obtain ⟨sa,sc,rfl,_,_⟩:=o2.form
 refine Wl.alloc fun w3 b3 n3 s3=>?_
 have hz1:=n1.size
 have hz2:=n2.size
 refine bH (u:=.slice sa (List.replicate n false).length sc) b3 rfl (show (0:Nat)<1 by omega) (by rw [List.length_replicate];rfl) rfl fun w4 b4 c4=>?_
 replace b4:Bk w4 w2.heap.size 128 [.slice sa (List.replicate n false).length sc]:=b4
 have n24:New w2 w4:=(Chg.trans n3.any c4 fun _ _ e=>e).toNew fun k hk e=>by omega
 have hz4:=n24.size
 (repeat' (first|refine af ?_|refine ah ?_|refine aj ?_|refine ai ?_))
 refine Wl.alloc fun w5 b5 n5 s5=>?_
 replace b5:Bk w5 w4.heap.size 233 [.nilFunc]:=b5
 (repeat' (first|refine af ?_|refine ah ?_|refine aj ?_|refine ai ?_))
 refine dL (f1:=[]) (c1:=[pT w.heap.size,pT w2.heap.size,pT w4.heap.size]) rfl rfl ?_
 refine bH (u:=.func (.func 126) #[] #[pT w.heap.size,pT w2.heap.size,pT w4.heap.size]) b5 rfl (show (0:Nat)<1 by omega) rfl rfl fun w6 b6' c6=>?_
 replace b6':Bk w6 w4.heap.size 233 [.func (.func 126) #[] #[pT w.heap.size,pT w2.heap.size,pT w4.heap.size]]:=b6'
 have n46:New w4 w6:=(Chg.trans n5.any c6 fun _ _ e=>e).toNew fun k hk e=>by omega
 have n26:=New.trans n24 n46
 have rc:RcS w nf xJ w.heap.size w2.heap.size w4.heap.size (.slice sa (List.replicate n false).length sc) w6:=⟨New.trans (New.trans n1 n2) n26,b1.chg (New.trans n2 n26) (fun e=>e),b4.chg n46 (fun e=>e),b6'⟩
 have o6:=o2.new (mZ _) n26
 (repeat' (first|refine af ?_|refine ah ?_|refine aj ?_|refine ai ?_))
 refine au (u:=.func (.func 126) #[] #[pT w.heap.size,pT w2.heap.size,pT w4.heap.size]) rfl (rc.v3.cell (o:=0) rfl) ?_
 (repeat' (refine aa0 ?_))
 refine dG (dst:=some 17) rfl (JC (Wn:=Wn) hnx hIn hn (fun k hk=>by have h9:w1.heap.size≤k:=(o6.lt hk).1;omega) _ w6 (List.replicate n false) i (Nat.le_refl _) hi (by simp) rc (o6.mono (nD _) (fun b _ e=>by have h9:w1.heap.size≤b:=e;omega) (fun _ _ e=>e))) rfl ?_
 rintro u w7 ⟨S',hM,o7,c7⟩
 simp only [zy]
 have rc7:=rc.chg o6 (fun k hk=>by have h9:w1.heap.size≤k:=(o6.lt hk).1;omega) c7
 (repeat' (first|refine aa1 ?_|refine af ?_|refine ah ?_|refine aj ?_|refine ai ?_))
 refine au (u:=.slice sa (List.replicate n false).length sc) rfl (rc7.v2.cell (o:=0) rfl) ?_
 have:=hM.full
 subst this
 rw [List.length_replicate] at o7 ⊢
 have n07:=rc7.n
 clear rc7 rc b1 b3 b4 b5 b6' o6 o2 hM n1 n2 n3 n24 n26 n46
 have oR:=o7.rd (nD _)
 (repeat' (first|refine aa0 ?_|refine af ?_|refine aO rfl ?_|refine ah ?_|refine Wc.block ?_))
 refine aU (σ:=Nat×Value) (fun q=>[(9,q.2),(18,.slice sa n sc),(19,vi n),(20,vi q.1)]) (fun q W=>q.1≤n∧ny (Wk.one viN) 3 1 (fun b=>w7.heap.size≤b) NoB W q.2 (LQ Wn q.1 i)∧New w7 W) (fun q=>n-q.1)
  (0,.slice none 0 0) ⟨rfl,rfl,rfl,rfl,trivial⟩ ⟨Nat.zero_le _,bK,aV _ _⟩ ?_
 rintro ⟨k,rv⟩ G W ⟨hk,own,nW⟩
 dsimp only at hk own nW
 simp only [oO]
 have hrl:=Uu Wn k i
 obtain ⟨ra,rcp,rfl,_,_⟩:=own.form
 (repeat' (first|refine aa0 ?_|refine aa1 ?_|refine af ?_|refine ah ?_|refine aj ?_|refine ai ?_|refine Wc.block ?_|refine Wc.skip ?_|refine aQ ?_|refine ax ?_|refine aS ?_|refine aP ?_|refine aT ?_|refine aa3 ?_|refine aa4 ?_|refine aa9 (fun _=>?_) (fun _=>?_)))
 ·obtain ⟨b,hb,hbr⟩:=yj (W:=Wn) (i:=i) (n:=n) (k:=k) (by omega)
  have hsn:=Rf Wn k i
  refine bY (oR.keep (nT _) nW.keep) rfl rfl (by omega) (by rw [Int.toNat_natCast];exact hb) fun b' o hcell=>?_
  refine au (u:=.bool b) rfl hcell ?_
  cases b with
  |true=>
   rw [if_pos (hbr.1 rfl)] at hsn
   (repeat' (first|refine aa0 ?_|refine aa1 ?_|refine af ?_|refine ah ?_|refine aj ?_|refine ai ?_|refine aa3 ?_))
   refine dF (R:=Wk.one viN) (y:=k) qJ own rfl rfl rfl rfl rfl (by omega) (by omega) (by simp only [maxLen];omega) (by omega) rfl rfl fun v5 w8 p Au c5 lie=>?_
   rw [←hsn] at Au
   have hz7:=nW.size
   (repeat' (first|refine aa0 ?_|refine aa1 ?_|refine af ?_|refine ah ?_|refine ai ?_|refine aJ ?_|refine aa7 ?_))
   exact aK (k+1,v5) ⟨rfl,rfl,rfl,rfl,trivial⟩ ⟨by dsimp only;omega,Au.mono (nD _) (fun b _ e=>by rcases e with e|e;exact e;omega) (fun _ _ e=>e),(Chg.trans nW.any c5 fun _ _ e=>e).toNew fun q hq e=>by have h9:w7.heap.size≤q:=(own.lt e).1;omega⟩ (by dsimp only;omega)
  |false=>
   rw [if_neg (fun e=>by have:=hbr.2 e;cases this),List.append_nil] at hsn
   (repeat' (first|refine aa0 ?_|refine aa1 ?_|refine af ?_|refine ah ?_|refine aj ?_|refine ai ?_|refine Wc.skip ?_|refine aJ ?_|refine aa4 ?_|refine aa7 ?_))
   exact aK (k+1,_) ⟨rfl,rfl,rfl,rfl,trivial⟩ ⟨by dsimp only;omega,by dsimp only;rw [hsn];exact own,nW⟩ (by dsimp only;omega)
 ·obtain rfl:k=n:=by omega
  have hz7:=n07.size
  skip
  exact aA rfl rfl ⟨_,rfl,own.mono (nD _) (fun b _ e=>by have e:w7.heap.size≤b:=e;show w.heap.size≤b;omega) (fun _ _ e=>e),New.trans n07 nW⟩
end Go.Proofs.YtjecgaiaiophpaaGreatDoor
namespace Go.Proofs.YtjecgaiaiophpaaGreatDoor
open Go Wk
section
variable {N:Nat→Bn} {fl:Nm→Bool}
theorem Rh {S:St} {i:Nat} (h:(N i).reason≠0):rowOf N S i=((N i).reason,(N i).card,(N i).why):=by unfold rowOf;rw [if_pos (.inl h)]
end
def EC (N:Nat→Bn) (S:St) (i:Nat):List Nat:=(N i).wants.filter fun k=>decide (S k≠1)
end Go.Proofs.YtjecgaiaiophpaaGreatDoor
namespace Go.Proofs.YtjecgaiaiophpaaGreatDoor
open Go Wk
open Go.RowKit (Below)
attribute [local irreducible] Go.Calls
theorem Ri {g:Giv} (hok:nV g.tree=true) (i:Nat):(nX g i).wants.length≤6000000:=by
 unfold nX
 split
 ·unfold zX
  dsimp only
  have h1:=uY hok g.tree.length (Nat.le_refl _)
  have htl:=oN hok
  have h2:(xg g.tree i).length≤((List.range g.tree.length).flatMap (yg g.tree)).length:=by
   unfold xg
   exact List.length_filterMap_le _ _
  rw [List.length_append]
  split
  ·simp only [List.length_cons,List.length_nil];omega
  ·simp only [List.length_nil];omega
 ·exact Nat.zero_le _
section
variable {Pb:Nat→Prop} {bw bm bc:Nat} {N:List Nb} {ord:List Nat} {fl:List (Nm×Int)} {nv ov:Value} {W W':World}
theorem G8 {i:Nat} (g:WkM Pb bw bm N ord fl nv ov W) (hb:Bk W bc 42 [pT bw]) (hi:i<N.length) (hwl:(bnF N i).wants.length≤6000000):
 Calls Tryz.prog 75 #[vi i,pT bc] W (Ret fun r w'=>ny (Wk.one viN) 3 1 (fun b=>W.heap.size≤b) NoB w' r (EC (bnF N) (stF N) i)∧New W w'):=by
 have hnl:=g.nl
 obtain ⟨na,nc,rfl,_,_⟩:=g.nd.row.form
 have hrd:=g.nd.row.rd (nP nbC)
 obtain ⟨x,hx⟩:=nN N hi
 have hw:=(g.nd.el x (List.mem_of_getElem? hx)).rd qJ.mo
 have hwin:=g.win x (List.mem_of_getElem? hx)
 unfold EC
 rw [rJ hx] at hwl ⊢
 obtain ⟨bn,wv,st⟩:=x
 obtain ⟨wa,wl,wc⟩:=wv
 obtain ⟨a',c',e',hwc,hwm⟩:=hw.form
 have Vp:wl=bn.wants.length:=by injection e'
 subst Vp
 dsimp only at hw hwin hwc hwl ⊢
 clear e'
 refine mQ Tryz.func75 rfl Tryz.ntmps75 rfl ?_
 (repeat' (first|refine aa1 ?_|refine af ?_|refine ah ?_|refine aj ?_|refine ai ?_))
 refine au (u:=pT bw) rfl (hb.cell (o:=0) rfl) ?_
 (repeat' (first|refine bI rfl ?_|refine aa5 ?_))
 refine au (u:=.slice na N.length nc) rfl (g.b.cell (o:=0) rfl) ?_
 (repeat' (refine aa0 ?_))
 refine bD hrd rfl rfl (by omega) (by rw [Int.toNat_natCast];exact hx) fun b o cs hl hR hat=>?_
 obtain rfl:cs=nbC _:=hR
 (repeat' (refine aa5 ?_))
 refine au (u:=.slice wa bn.wants.length wc) rfl (hat.get 6 rfl) ?_
 clear hat
 (repeat' (first|refine aa0 ?_|refine af ?_|refine aO rfl ?_|refine ah ?_|refine Wc.block ?_))
 refine aU (σ:=Nat×Value) (fun q=>[(1,pT bc),(4,q.2),(14,.slice wa bn.wants.length wc),(15,vi bn.wants.length),(16,vi q.1)])
  (fun q w'=>q.1≤bn.wants.length∧ny (Wk.one viN) 3 1 (fun b=>W.heap.size≤b) NoB w' q.2 ((bn.wants.take q.1).filter fun k=>decide (stF N k≠1))∧New W w') (fun q=>bn.wants.length-q.1)
  (0,.slice none 0 0) ⟨rfl,rfl,rfl,rfl,rfl,trivial⟩ ⟨Nat.zero_le _,bK,aV _ _⟩ ?_
 rintro ⟨k,rv⟩ G w1 ⟨hk,own,n1⟩
 dsimp only at hk own n1
 simp only [oO]
 have g1:=g.new n1
 have NS:=hrd.keep (nU nbC) n1.keep
 have hrl:((bn.wants.take k).filter fun k=>decide (stF N k≠1)).length≤k:=by
  refine Nat.le_trans (List.length_filter_le _ _) ?_
  rw [List.length_take];omega
 obtain ⟨ra,rcp,rfl,_,_⟩:=own.form
 (repeat' (first|refine aa0 ?_|refine aa1 ?_|refine af ?_|refine ah ?_|refine aj ?_|refine ai ?_|refine Wc.block ?_|refine Wc.skip ?_|refine aQ ?_|refine ax ?_|refine aS ?_|refine aP ?_|refine aT ?_|refine aa3 ?_|refine aa4 ?_|refine aa9 (fun _=>?_) (fun _=>?_)))
 ·obtain ⟨m,hm⟩:=nN bn.wants (k:=k) (by omega)
  have hml:=hwin m (List.mem_of_getElem? hm)
  obtain ⟨y,hy⟩:=nN N hml
  have hsn:(bn.wants.take (k+1)).filter (fun k=>decide (stF N k≠1))=(bn.wants.take k).filter (fun k=>decide (stF N k≠1))++if y.st=1 then [] else [m]:=by
   rw [take_snoc hm,List.filter_append]
   congr 1
   rw [List.filter_cons,List.filter_nil,vS hy]
   by_cases e:y.st=1
   ·rw [if_pos e];simp [e]
   ·rw [if_neg e];simp [e]
  refine bY (hw.keep (nT _) n1.keep) rfl rfl (by omega) (by rw [Int.toNat_natCast];exact hm) fun b o hcell=>?_
  refine au (u:=vi m) rfl hcell ?_
  (repeat' (first|refine aa1 ?_|refine af ?_|refine ah ?_|refine aj ?_|refine ai ?_))
  refine au (u:=pT bw) rfl ((hb.chg n1 fun e=>e).cell (o:=0) rfl) ?_
  (repeat' (first|refine bI rfl ?_|refine aa5 ?_))
  refine au (u:=.slice na N.length nc) rfl (g1.b.cell (o:=0) rfl) ?_
  (repeat' (refine aa0 ?_))
  refine bD NS rfl rfl (by omega) (by rw [Int.toNat_natCast];exact hy) fun b o cs hl hR hat=>?_
  obtain rfl:cs=nbC y:=hR
  (repeat' (refine aa5 ?_))
  refine au (u:=.bool (y.st == 1)) rfl (hat.get 7 rfl) ?_
  clear hat
  cases hst:(y.st == 1) with
  |true=>
   rw [if_pos (by simpa using hst),List.append_nil] at hsn
   (repeat' (first|refine aa0 ?_|refine af ?_|refine aZ rfl ?_|refine ah ?_|refine ai ?_|refine Wc.skip ?_|refine aJ ?_|refine aa4 ?_|refine aa7 ?_))
   exact aK (k+1,_) ⟨rfl,rfl,rfl,rfl,rfl,trivial⟩ ⟨by dsimp only;omega,by dsimp only;rw [hsn];exact own,n1⟩ (by dsimp only;omega)
  |false=>
   rw [if_neg (by simpa using hst)] at hsn
   have hz1:=n1.size
   (repeat' (first|refine aa0 ?_|refine af ?_|refine aZ rfl ?_|refine ah ?_|refine ai ?_|refine aa3 ?_))
   refine dF (R:=Wk.one viN) (y:=m) qJ own rfl rfl rfl rfl rfl (by omega) (by omega) (by simp only [maxLen];omega) (by omega) rfl rfl fun v5 w5 p Au c5 lie=>?_
   rw [←hsn] at Au
   (repeat' (first|refine aa0 ?_|refine aa1 ?_|refine af ?_|refine ah ?_|refine ai ?_|refine aJ ?_|refine aa7 ?_))
   exact aK (k+1,v5) ⟨rfl,rfl,rfl,rfl,rfl,trivial⟩ ⟨by dsimp only;omega,Au.mono (nD _) (fun b _ e=>by rcases e with e|e;exact e;omega) (fun _ _ e=>e),(Chg.trans n1.any c5 fun _ _ e=>e).toNew fun q hq e=>by have h9:W.heap.size≤q:=(own.lt e).1;omega⟩ (by dsimp only;omega)
 ·obtain rfl:k=bn.wants.length:=by omega
  rw [List.take_length] at own ⊢
  exact aA rfl rfl ⟨_,rfl,own,n1⟩
end
end Go.Proofs.YtjecgaiaiophpaaGreatDoor
namespace Go.Proofs.YtjecgaiaiophpaaGreatDoor
open Go Wk
open Go.RowKit (Below)
attribute [local irreducible] Go.Calls
end Go.Proofs.YtjecgaiaiophpaaGreatDoor
namespace Go.Proofs.YtjecgaiaiophpaaGreatDoor
open Go Wk
open Go.RowKit (Below)
attribute [local irreducible] Go.Calls
abbrev noV (p:Nd×SV):List Value:=[vi p.1.parent,vs p.1.name,svV p.2]
abbrev cdV (p:Cd×SV):List Value:=cdC p.1 (svV p.2)
theorem ad7 (p:Nd×SV): ∀c∈noV p,c.oneCell'=true:=by
 intro c hc
 simp at hc
 rcases hc with rfl|rfl|rfl<;>rfl
theorem ad8 (p:Cd×SV): ∀c∈cdV p,c.oneCell'=true:=by
 intro c hc
 simp [cdC] at hc
 rcases hc with rfl|rfl|rfl|rfl|rfl|rfl|rfl<;>rfl
theorem Pz:qG (flat noV) 3:=qH _ (fun _=>rfl) ad7
theorem Vz:qG (flat cdV) 7:=qH _ (fun _=>rfl) ad8
theorem EX {α β:Type} {R:Rel α} {R':Rel β} {sz:Nat} {Pb:Nat→Prop} {w:World} {v:Value} {xs:List α} (f:α→β) (h:RdS R sz Pb w v xs) (hf: ∀x∈xs, ∀cs,R Pb w x cs→R' Pb w (f x) cs):RdS R' sz Pb w v (xs.map f):=by
 rcases h with ⟨rfl,rfl⟩|⟨a,cap,rfl,rfl,hc⟩|⟨b,off,cap,cur,e,fr,rfl,hb,hh,h1,h2,h3,h4⟩
 ·exact .inl ⟨rfl,rfl⟩
 ·exact .inr (.inl ⟨a,cap,rfl,rfl,hc⟩)
 ·refine .inr<| .inr ⟨b,off,cap,cur,e,fr,by rw [List.length_map],hb,hh,by rw [List.length_map];exact h1,h2,by rw [List.length_map];exact h3,fun i y hy=>?_⟩
  rw [List.getElem?_map] at hy
  obtain ⟨x,hx,rfl⟩:=Option.map_eq_some_iff.1 hy
  exact hf x (List.mem_of_getElem? hx) _ (h4 i x hx)
end Go.Proofs.YtjecgaiaiophpaaGreatDoor
namespace Go.Proofs.YtjecgaiaiophpaaGreatDoor
open Go Wk
end Go.Proofs.YtjecgaiaiophpaaGreatDoor
namespace Go.Proofs.YtjecgaiaiophpaaGreatDoor
open Go Wk
def ug:Nm:=[111,115,99]
def cell1:List UInt8:=[0,0,0,1]
def awT:List Nd:=[⟨-1,[],[]⟩,⟨0,ug,[⟨qm,[107,0]⟩,⟨uw,cell1⟩]⟩,⟨0,[97],[⟨qm,[107,0]⟩,⟨[99,108,111,99,107,115],cell1⟩]⟩]
def awC:List Cd:=[⟨[107],[102],1,[[107]],0,[], -1⟩]
def awE:Ed:=⟨2,some 1,1,false,0,[]⟩
theorem Uw:nV awT=true:=by decide+kernel
theorem Xz:sK awC=true:=by decide+kernel
theorem Gx {t:List Nd}: ∀(l:List Nat),(∀n∈l,ofM t n=some [])→tC t [] l=([],[])
 | [],_=>by rw [tC]
 |n::r,h=>by
  rw [tC,h n List.mem_cons_self]
  exact Gx r fun m hm=>h m (List.mem_cons_of_mem _ hm)
theorem JD {cs:List Cd} {t:List Nd} (h: ∀n,n<t.length→ofM t n=some []):qC cs t=([],[]):=by
 unfold qC
 refine Gx _ fun n hn=>h n ?_
 unfold Ci at hn
 rw [List.mem_mergeSort,List.mem_filter,List.mem_range] at hn
 exact hn.1
theorem Ux {t:List Nd} {i:Nat} (h:UX t i=some []):ofM t i=some []:=by
 unfold ofM
 rw [h]
 simp [qK]
theorem Rch.less {W:Nat→List Nat} (h: ∀i k,k∈W i→k<i) {a b:Nat} (r:Rch W a b):b<a:=by
 induction r with
 |one h1=>exact h _ _ h1
 |more _ h1 ih=>exact Nat.lt_trans (h _ _ h1) ih
theorem Dl {W:Nat→List Nat} {order:List Nat} (h: ∀i, ¬Rch W i i): ∀(l seen:List Nat),rF W order seen l=[]
 | [],seen=>by rw [rF]
 |i::r,seen=>by rw [rF,if_pos (.inr (h i))];exact Dl h r seen
theorem LV {t:List Nd} (h: ∀i k,k∈pM t i→k<i):rV t=[]:=Dl (fun i r=>Nat.lt_irrefl _ (Rch.less h r)) _ _
theorem LW {g:Giv} {i:Nat} (ho:onM g.tree i=true) (hc:qF g.tree i=true→qI g.cards g.tree i≠none) (hd:(qC g.cards g.tree).2=[]) (he: ∀e∈nY g.tree,e.dst≠none) (hr:rV g.tree=[]) (hg:sG g i=none):firstM g i=(0, -1):=by
 unfold firstM
 dsimp only
 rw [if_neg (by rw [ho];decide),if_neg (fun e=>hc e.1 e.2),hd,hr]
 have h1:(if qF g.tree i=true then Gq [] i else none)=none:=by split<;>rfl
 have h2:(if qF g.tree i=true then Gs [] i else none)=none:=by split<;>rfl
 rw [h1,h2,hg]
 dsimp only
 rw [if_neg]
 rintro ⟨_,e,h3,_,_,h4⟩
 exact he e h3 h4
theorem Oq {g:Giv} (h:g.gone=[]) (i:Nat):sG g i=none:=by
 unfold sG
 rw [List.find?_eq_none,h]
 intro k _ e
 simp at e
theorem Dn:nY awT=[awE]:=by decide+kernel
theorem Uy:qC awC awT=([],[]):=by
 refine JD fun n hn=>Ux ?_
 have:n=0∨n=1∨n=2:=by have:awT.length=3:=rfl;omega
 rcases this with rfl|rfl|rfl<;>decide+kernel
theorem VA:rV awT=[]:=by
 refine LV fun i k hk=>?_
 unfold pM at hk
 rw [Dn] at hk
 rcases List.mem_append.1 hk with hk|hk
 ·split at hk
  ·rename_i h0
   rw [List.mem_singleton.1 hk]
   by_cases hi:i<awT.length
   ·exact (uo Uw (by omega) hi).1
   ·have:par awT i=0:=by
     unfold par ndA
     rw [List.getD_eq_getElem?_getD,List.getElem?_eq_none (by omega)];rfl
    omega
  ·cases hk
 ·obtain ⟨e,he,h⟩:=List.mem_filterMap.1 hk
  rw [List.mem_singleton.1 he] at h
  split at h
  ·rename_i hc
   cases h
   rw [←hc.1];decide
  ·cases h
def awN:Nat→Bn:=fun i=>match i with
 |0=>⟨[47],false,0,0,none, -1,[]⟩
 |1=>⟨47::ug,true,1,0,some 0, -1,[0]⟩
 |2=>⟨[47,97],true,1,0,some 0, -1,[0,1]⟩
 |_=>default
theorem Uz (fails:List Nm):nX ⟨awT,awC,fails,[]⟩=awN:=by
 funext i
 have hl:awT.length=3:=rfl
 have hf: ∀i,onM awT i=true→(qF awT i=true→qI awC awT i≠none)→firstM ⟨awT,awC,fails,[]⟩ i=(0, -1):=fun i h1 h2=>
  LW h1 h2 (by rw [Uy]) (fun e he=>by rw [Dn] at he;rw [List.mem_singleton.1 he];decide) VA (Oq rfl i)
 match i with
 |0=>
  rw [Aa (by show 0<3;omega)]
  unfold zX
  rw [hf 0 (by decide+kernel) (by decide+kernel)]
  have h1:qF awT 0=false:=by decide+kernel
  have h2:oz awT 0=[47]:=by decide+kernel
  have h3:xg awT 0=[]:=by unfold xg;rw [Dn];decide+kernel
  dsimp only
  rw [h1,h2,h3];rfl
 |1=>
  rw [Aa (by show 1<3;omega)]
  unfold zX
  rw [hf 1 (by decide+kernel) (by decide+kernel)]
  have h1:qF awT 1=true:=by decide+kernel
  have h2:oz awT 1=47::ug:=by decide+kernel
  have h3:xg awT 1=[]:=by unfold xg;rw [Dn];decide+kernel
  have h4:qI awC awT 1=some 0:=by decide+kernel
  have h5:par awT 1=0:=by decide+kernel
  dsimp only
  rw [h1,h2,h3,h4,h5];rfl
 |2=>
  rw [Aa (by show 2<3;omega)]
  unfold zX
  rw [hf 2 (by decide+kernel) (by decide+kernel)]
  have h1:qF awT 2=true:=by decide+kernel
  have h2:oz awT 2=[47,97]:=by decide+kernel
  have h3:xg awT 2=[1]:=by unfold xg;rw [Dn];decide+kernel
  have h4:qI awC awT 2=some 0:=by decide+kernel
  have h5:par awT 2=0:=by decide+kernel
  dsimp only
  rw [h1,h2,h3,h4,h5];rfl
 |n+3=>rw [Ui (by show ¬n+3<3;omega)];rfl
theorem PD:pX awN 3=[0,2,1]:=by
 have:(List.range 3).filter (fun i=>decide ((awN i).reason=0))=[0,1,2]:=by decide+kernel
 unfold pX
 rw [this]
 have h12:(!decide (qN (fun i=>(awN i).level) (fun i=>(awN i).path) 2 1<0))=false:=by decide+kernel
 have h01:(!decide (qN (fun i=>(awN i).level) (fun i=>(awN i).path) 1 0<0))=true:=by decide+kernel
 have h02:(!decide (qN (fun i=>(awN i).level) (fun i=>(awN i).path) 2 0<0))=true:=by decide+kernel
 simp [List.mergeSort,List.MergeSort.Internal.splitInTwo,List.merge,List.splitAt,List.splitAt.go] at*
 simp [*]
section
variable {N:Nat→Bn} {fl fl':Nm→Bool} (h: ∀i,((N i).device&&fl (N i).path)=((N i).device&&fl' (N i).path))
include h
theorem UA (S:St) (i:Nat):qE N fl S i=qE N fl' S i:=by unfold qE;rw [h]
theorem BN: ∀(l:List Nat) (S:St),oh N fl l S=oh N fl' l S
 | [],S=>by rw [oh,oh]
 |i::r,S=>by
  rw [sQ,sQ,UA h,BN r S]
  cases qE N fl' S i with
  |none=>rfl
  |some S'=>dsimp only;rw [BN r S']
theorem D7 (order:List Nat): ∀(f:Nat) (S:St),doneGo N fl order f S=doneGo N fl' order f S
 |0,S=>by rw [doneGo,doneGo]
 |f+1,S=>by rw [zY,zY,BN h,D7 order f]
end
theorem VB {fl:Nm→Bool} (h:fl [47,97]=false) (h2:fl (47::ug)=false):(rowOf awN (rC awN fl 3).2 2).1=0:=by
 unfold rC
 rw [D7 (fl':=fun _=>false),PD]
 ·decide+kernel
 ·intro i
  match i with
  |0=>rfl
  |1=>exact h2
  |2=>exact h
  |n+3=>rfl
theorem VD {fl:Nm→Bool} (h:fl [47,97]=false) (h2:fl (47::ug)=true):(rC awN fl 3).1.length=2∧(rowOf awN (rC awN fl 3).2 1).1=7∧rowOf awN (rC awN fl 3).2 2=(8,some 0,1):=by
 unfold rC
 rw [D7 (fl':=fun s=>decide (s=47::ug)),PD]
 ·decide+kernel
 ·intro i
  match i with
  |0=>rfl
  |1=>exact h2
  |2=>exact h
  |n+3=>rfl
end Go.Proofs.YtjecgaiaiophpaaGreatDoor
namespace Go.Proofs.YtjecgaiaiophpaaGreatDoor
open Go Wk
open Go.RowKit (Below)
attribute [local irreducible] Go.Calls
theorem yw (g:Giv):(wO g).length=g.tree.length:=by unfold wO rowsOf;rw [List.length_map,List.length_range]
theorem vY {g:Giv} {i:Nat} (h:i<g.tree.length):(wO g)[i]? =some (rowOf (nX g) (wM g).2 i):=by unfold wO rowsOf;rw [List.getElem?_map,List.getElem?_range h];rfl
theorem UB (fails:List Nm) (h:fails.length≤512):qf ⟨awT,awC,fails,[]⟩=0:=xh.2 ⟨Uw,Xz,h,Nat.zero_le _⟩
theorem LX (fails:List Nm) (h: ∀x∈fails,x.length≤100000000):Oo ⟨awT,awC,fails,[]⟩:=⟨h,fun x hx=>by cases hx⟩
theorem Ot {w:World}:Calls Tryz.prog 12 #[] w (Ret fun r w'=>r=.bool true∧New w w'):=by
 refine mQ Tryz.func12 rfl Tryz.ntmps12 rfl ?_
 (repeat' (first|refine aa1 ?_|refine af ?_|refine ah ?_|refine aj ?_|refine ai ?_))
 refine bZ (ps:=[(0,.const (vi (-1)))]) (parts:=[(0,vi (-1))]) rfl rfl (by simp [Value.cells]) ?_
 refine bZ (ps:=[(0,.const (vs qm)),(1,.const (vs [107,0]))]) (parts:=[(0,vs qm),(1,vs [107,0])]) rfl rfl (by simp [Value.cells]) ?_
 (repeat' (refine aa0 ?_))
 refine bZ (ps:=[(0,.const (vs uw)),(1,.tmp 10)]) (parts:=[(0,vs uw),(1,vs cell1)]) rfl rfl (by simp [Value.cells]) ?_
 refine iE (R:=rPr) (N:=2) (ps:=[(0,.tmp 9),(1,.tmp 11)]) (xs:=[(qm,[107,0]),(uw,cell1)]) (us:=[.agg (pC (qm,[107,0])).toArray,.agg (pC (uw,cell1)).toArray]) (Pe:=NoB) II rfl rfl ⟨rfl,rfl,rfl,rfl,trivial⟩ (by simp) (by simp) fun v1 w1 o1 n1 s1 ob1=>?_
 obtain ⟨a1,c1,rfl,_,_⟩:=o1.form
 refine bZ (ps:=[(1,.const (vs ug)),(2,.tmp 12)]) (parts:=[(1,vs ug),(2,.slice a1 2 c1)]) rfl rfl (by simp [Value.cells]) ?_
 refine bZ (ps:=[(0,.const (vs qm)),(1,.const (vs [107,0]))]) (parts:=[(0,vs qm),(1,vs [107,0])]) rfl rfl (by simp [Value.cells]) ?_
 (repeat' (refine aa0 ?_))
 refine bZ (ps:=[(0,.const (vs [99,108,111,99,107,115])),(1,.tmp 15)]) (parts:=[(0,vs [99,108,111,99,107,115]),(1,vs cell1)]) rfl rfl (by simp [Value.cells]) ?_
 refine iE (R:=rPr) (N:=2) (ps:=[(0,.tmp 14),(1,.tmp 16)]) (xs:=[(qm,[107,0]),([99,108,111,99,107,115],cell1)]) (us:=[.agg (pC (qm,[107,0])).toArray,.agg (pC ([99,108,111,99,107,115],cell1)).toArray]) (Pe:=NoB) II rfl rfl ⟨rfl,rfl,rfl,rfl,trivial⟩ (by simp) (by simp) fun v2 w2 o2 n2 s2 ob2=>?_
 obtain ⟨a2,c2,rfl,_,_⟩:=o2.form
 refine bZ (ps:=[(1,.const (vs [97])),(2,.tmp 17)]) (parts:=[(1,vs [97]),(2,.slice a2 2 c2)]) rfl rfl (by simp [Value.cells]) ?_
 let LT:List (Nd×SV):=[(⟨-1,[],[]⟩,(none,0,0)),(⟨0,ug,[(qm,[107,0]),(uw,cell1)]⟩,(a1,2,c1)),(⟨0,[97],[(qm,[107,0]),([99,108,111,99,107,115],cell1)]⟩,(a2,2,c2))]
 refine iE (R:=flat noV) (N:=3) (ps:=[(0,.tmp 8),(1,.tmp 13),(2,.tmp 18)]) (xs:=LT) (us:=LT.map fun p=>.agg (noV p).toArray) (Pe:=NoB) Pz rfl rfl ⟨rfl,rfl,rfl,rfl,rfl,rfl,trivial⟩ (by simp [LT]) (by simp [LT]) fun v3 w3 o3 n3 s3 ob3=>?_
 obtain ⟨a3,c3,rfl,_,_⟩:=o3.form
 have hT:RdS rNd 3 (fun _=>True) w3 (.slice a3 3 c3) awT:=by
  have h1:=(o3.rd (nP noV)).mono (Pb':=fun _=>True) (nP noV) fun _ _ _=>trivial
  refine EX (R':=rNd) (fun p:Nd×SV=>p.1) h1 fun x hx cs hcs=>⟨svV x.2,hcs,?_⟩
  have n13:=New.trans n2 n3
  simp only [LT,List.mem_cons,List.not_mem_nil,or_false] at hx
  rcases hx with rfl|rfl|rfl
  ·exact bP
  ·exact ((o1.new (mV pC) n13).rd (nP pC)).mono (nP pC) fun _ _ _=>trivial
  ·exact ((o2.new (mV pC) n3).rd (nP pC)).mono (nP pC) fun _ _ _=>trivial
 (repeat' (first|refine aa1 ?_|refine af ?_|refine ah ?_|refine aj ?_|refine ai ?_))
 refine dB (R:=Wk.one vs) (Pe:=NoB) (y:=[107]) qR rfl rfl rfl rfl (by omega) (by omega) fun v4 w4 o4 n4 s4 e4=>?_
 obtain ⟨a4,c4,rfl,_,_⟩:=o4.form
 refine bZ (ps:=[(0,.const (vs [107])),(1,.const (vs [102])),(2,.const (.int .u8 1)),(3,.tmp 20),(6,.const (.int .i16 (-1)))]) (parts:=[(0,vs [107]),(1,vs [102]),(2,.int .u8 1),(3,.slice a4 1 c4),(6,.int .i16 (-1))]) rfl rfl (by simp [Value.cells]) ?_
 refine dB (R:=flat cdV) (Pe:=NoB) (y:=(⟨[107],[102],1,[[107]],0,[], -1⟩,(a4,1,c4))) Vz rfl rfl rfl rfl (by omega) (by omega) fun v5 w5 o5 n5 s5 e5=>?_
 obtain ⟨a5,c5,rfl,_,_⟩:=o5.form
 have hC:RdS rCd 7 (fun _=>True) w5 (.slice a5 1 c5) awC:=by
  have h1:=(o5.rd (nP cdV)).mono (Pb':=fun _=>True) (nP cdV) fun _ _ _=>trivial
  refine EX (R':=rCd) (fun p:Cd×SV=>p.1) h1 fun x hx cs hcs=>⟨svV x.2,hcs,?_⟩
  simp only [List.mem_cons,List.not_mem_nil,or_false] at hx
  subst hx
  exact ((o4.new (mZ _) n5).rd qR.mo).mono (nD _) fun _ _ _=>trivial
 have n35:=New.trans n4 n5
 have n05:=New.trans n1 (New.trans n2 (New.trans n3 n35))
 have r5:RdG (fun _=>True) w5 ⟨awT,awC,[],[]⟩ (.slice a3 3 c3) (.slice a5 1 c5) (.slice none 0 0) (.slice none 0 0):=⟨hT.keep nO n35.keep,hC,bP,bP⟩
 clear o1 o2 o3 o4 o5 hT hC n1 n2 n3 n4 n5 n35
 (repeat' (first|refine aa0 ?_|refine aa1 ?_|refine af ?_|refine ah ?_|refine aj ?_|refine ai ?_))
 refine bZ (ps:=[(0,.tmp 24),(1,.tmp 25)]) (parts:=[(0,.slice a3 3 c3),(1,.slice a5 1 c5)]) rfl rfl (by simp [Value.cells]) ?_
 refine ay (sS r5 (LX [] (by simp))) rfl ?_
 rintro _ w6 ⟨hr,n6⟩
 unfold sH at hr
 rw [if_pos (UB [] (by simp))] at hr
 obtain ⟨ra,rb,rc,rd,rfl,hR⟩:=hr
 obtain ⟨⟨p1,q1,rfl⟩,⟨p2,q2,rfl⟩,⟨p3,q3,rfl⟩,⟨p4,q4,rfl⟩⟩:=hR.form
 (repeat' (first|refine aa0 ?_|refine aa8 ?_))
 refine Wl.alloc fun w7 b7 n7 s7=>?_
 refine aX (new:=[.slice p1 _ q1,.slice p2 _ q2,.slice p3 _ q3,.slice p4 _ q4]) b7 rfl rfl rfl rfl (show (4:Nat)≤4 from Nat.le_refl 4) (by intro c hc;simp at hc;rcases hc with rfl|rfl|rfl|rfl<;>rfl) fun w8 b8 c8 s8=>?_
 have n68:New w6 w8:=(Chg.trans n7.any c8 fun _ _ e=>e).toNew fun k hk e=>by omega
 clear b7 n7 c8
 have n58:=New.trans n6 n68
 have hR8:=hR.new n68
 (repeat' (first|refine aa0 ?_|refine aa1 ?_|refine af ?_|refine ah ?_|refine aj ?_|refine ai ?_))
 refine dB (R:=Wk.one vs) (Pe:=NoB) (y:=47::ug) qR rfl rfl rfl rfl (by omega) (by omega) fun v9 w9 o9 n9 s9 e9=>?_
 obtain ⟨a9,c9,rfl,_,_⟩:=o9.form
 have r9:RdG (fun _=>True) w9 ⟨awT,awC,[47::ug],[]⟩ (.slice a3 3 c3) (.slice a5 1 c5) (.slice a9 1 c9) (.slice none 0 0):=
  ⟨r5.t.keep nO (New.trans n58 n9).keep,r5.c.keep qx (New.trans n58 n9).keep,(o9.rd qR.mo).mono (nD _) fun _ _ _=>trivial,bP⟩
 refine bZ (ps:=[(0,.tmp 31),(1,.tmp 32),(2,.tmp 33)]) (parts:=[(0,.slice a3 3 c3),(1,.slice a5 1 c5),(2,.slice a9 1 c9)]) rfl rfl (by simp [Value.cells]) ?_
 refine ay (sS r9 (LX [47::ug] (by intro x hx;rw [List.mem_singleton.1 hx];decide))) rfl ?_
 rintro _ w10 ⟨hs,n10⟩
 unfold sH at hs
 rw [if_pos (UB [47::ug] (by simp))] at hs
 obtain ⟨sa,sb,sc,sd,rfl,hS⟩:=hs
 obtain ⟨⟨t1,u1,rfl⟩,⟨t2,u2,rfl⟩,⟨t3,u3,rfl⟩,⟨t4,u4,rfl⟩⟩:=hS.form
 (repeat' (first|refine aa0 ?_|refine aa8 ?_))
 refine Wl.alloc fun w11 b11 n11 s11=>?_
 refine aX (new:=[.slice t1 _ u1,.slice t2 _ u2,.slice t3 _ u3,.slice t4 _ u4]) b11 rfl rfl rfl rfl (show (4:Nat)≤4 from Nat.le_refl 4) (by intro c hc;simp at hc;rcases hc with rfl|rfl|rfl|rfl<;>rfl) fun w12 b12 c12 s12=>?_
 have Ie:New w10 w12:=(Chg.trans n11.any c12 fun _ _ e=>e).toNew fun k hk e=>by omega
 clear b11 n11 c12
 have VE:=New.trans n9 (New.trans n10 Ie)
 have b8':=b8.chg VE fun e=>e
 have hR':=hR8.new VE
 have hS':=hS.new Ie
 have ad9:=New.trans n05 (New.trans n58 VE)
 clear r5 r9 o9 hR hS hR8 b8 n6 n9 n10 n68 n58 VE Ie n05
 have lR:(wO ⟨awT,awC,[],[]⟩).length=3:=yw _
 have lS:(wO ⟨awT,awC,[47::ug],[]⟩).length=3:=yw _
 have gR:=vY (g:=⟨awT,awC,[],[]⟩) (i:=2) (by show 2<3;omega)
 have gS1:=vY (g:=⟨awT,awC,[47::ug],[]⟩) (i:=1) (by show 1<3;omega)
 have gS2:=vY (g:=⟨awT,awC,[47::ug],[]⟩) (i:=2) (by show 2<3;omega)
 have hR2:(rowOf (nX ⟨awT,awC,[],[]⟩) (wM ⟨awT,awC,[],[]⟩).2 2).1=0:=by
  show (rowOf (nX ⟨awT,awC,[],[]⟩) (rC (nX ⟨awT,awC,[],[]⟩) _ 3).2 2).1=0
  rw [Uz];exact VB (by rfl) (by rfl)
 have hSS:(wM ⟨awT,awC,[47::ug],[]⟩).1.length=2∧(rowOf (nX ⟨awT,awC,[47::ug],[]⟩) (wM ⟨awT,awC,[47::ug],[]⟩).2 1).1=7∧rowOf (nX ⟨awT,awC,[47::ug],[]⟩) (wM ⟨awT,awC,[47::ug],[]⟩).2 2=(8,some 0,1):=by
  show (rC (nX ⟨awT,awC,[47::ug],[]⟩) _ 3).1.length=2∧(rowOf (nX ⟨awT,awC,[47::ug],[]⟩) (rC (nX ⟨awT,awC,[47::ug],[]⟩) _ 3).2 1).1=7∧rowOf (nX ⟨awT,awC,[47::ug],[]⟩) (rC (nX ⟨awT,awC,[47::ug],[]⟩) _ 3).2 2=(8,some 0,1)
  rw [Uz];exact VD (by decide+kernel) (by decide+kernel)
 obtain ⟨hS1,hS2,hS3⟩:=hSS
 rw [hS3] at gS2
 generalize rowOf (nX ⟨awT,awC,[],[]⟩) (wM ⟨awT,awC,[],[]⟩).2 2=x1 at*
 generalize rowOf (nX ⟨awT,awC,[47::ug],[]⟩) (wM ⟨awT,awC,[47::ug],[]⟩).2 1=x2 at*
 have oR:=hR'.rows.rd (nP _)
 have oS:=hS'.rows.rd (nP _)
 clear hR' hS'
 generalize wO ⟨awT,awC,[],[]⟩=R1 at*
 generalize wO ⟨awT,awC,[47::ug],[]⟩=R2 at*
 generalize (wM ⟨awT,awC,[47::ug],[]⟩).1=E2 at*
 (repeat' (first|refine aa0 ?_|refine aa1 ?_|refine af ?_|refine aa6 ?_|refine pG ?_|refine ah ?_|refine aj ?_|refine ai ?_|refine aa5 ?_|(refine bV rfl rfl (fun _=>?_) (fun _=>?_)<;>(first|(exfalso;omega)|skip))))
 refine au (u:=.slice p1 R1.length q1) rfl (b8'.cell (o:=0) rfl) ?_
 (repeat' (first|refine aa0 ?_|refine aa6 ?_|refine pG ?_|refine aO rfl ?_|refine aa5 ?_|(refine bV rfl rfl (fun _=>?_) (fun _=>?_)<;>(first|(exfalso;omega)|skip))))
 refine au (u:=.slice t1 R2.length u1) rfl (b12.cell (o:=0) rfl) ?_
 (repeat' (first|refine aa0 ?_|refine aa6 ?_|refine pG ?_|refine aO rfl ?_|refine aa5 ?_|(refine bV rfl rfl (fun _=>?_) (fun _=>?_)<;>(first|(exfalso;omega)|skip))))
 refine au (u:=.slice p1 R1.length q1) rfl (b8'.cell (o:=0) rfl) ?_
 (repeat' (refine aa6 ?_))
 refine bD oR rfl rfl (by omega) gR fun b o cs hl hR hat=>?_
 obtain rfl:cs=rwC _:=hR
 (repeat' (first|refine aa6 ?_|refine aa5 ?_))
 refine au (u:=.int .u8 x1.1) rfl (hat.get 0 rfl) ?_
 clear hat
 (repeat' (first|refine aa0 ?_|refine aa6 ?_|refine pG ?_|refine aa5 ?_|(refine bV rfl rfl (fun _=>?_) (fun _=>?_)<;>(first|(exfalso;omega)|skip))))
 refine au (u:=.slice t1 R2.length u1) rfl (b12.cell (o:=0) rfl) ?_
 (repeat' (refine aa6 ?_))
 refine bD oS rfl rfl (by omega) gS1 fun b o cs hl hR hat=>?_
 obtain rfl:cs=rwC _:=hR
 (repeat' (first|refine aa6 ?_|refine aa5 ?_))
 refine au (u:=.int .u8 x2.1) rfl (hat.get 0 rfl) ?_
 clear hat
 (repeat' (first|refine aa0 ?_|refine aa6 ?_|refine pG ?_|refine aa5 ?_|(refine bV rfl rfl (fun _=>?_) (fun _=>?_)<;>(first|(exfalso;omega)|skip))))
 refine au (u:=.slice t1 R2.length u1) rfl (b12.cell (o:=0) rfl) ?_
 (repeat' (refine aa6 ?_))
 refine bD oS rfl rfl (by omega) gS2 fun b o cs hl hR hat=>?_
 obtain rfl:cs=rwC _:=hR
 (repeat' (first|refine aa6 ?_|refine aa5 ?_))
 refine au (u:=.int .u8 8) rfl (hat.get 0 rfl) ?_
 clear hat
 (repeat' (first|refine aa0 ?_|refine aa6 ?_|refine pG ?_|refine aa5 ?_|(refine bV rfl rfl (fun _=>?_) (fun _=>?_)<;>(first|(exfalso;omega)|skip))))
 refine au (u:=.slice t1 R2.length u1) rfl (b12.cell (o:=0) rfl) ?_
 (repeat' (refine aa6 ?_))
 refine bD oS rfl rfl (by omega) gS2 fun b o cs hl hR hat=>?_
 obtain rfl:cs=rwC _:=hR
 (repeat' (first|refine aa6 ?_|refine aa5 ?_))
 refine au (u:=vi 1) rfl (hat.get 2 rfl) ?_
 clear hat
 (repeat' (first|refine aa0 ?_|refine aa6 ?_|refine pG ?_|refine aa5 ?_|(refine bV rfl rfl (fun _=>?_) (fun _=>?_)<;>(first|(exfalso;omega)|skip))))
 refine au (u:=.slice t2 E2.length u2) rfl (b12.cell (o:=1) rfl) ?_
 (repeat' (first|refine aa1 ?_|refine af ?_|refine aa6 ?_|refine pG ?_|refine aO rfl ?_|refine ah ?_|refine ax ?_|(refine bV rfl rfl (fun _=>?_) (fun _=>?_)<;>(first|(exfalso;omega)|skip))))
 exact aA rfl rfl ⟨_,rfl,rfl,ad9⟩
end Go.Proofs.YtjecgaiaiophpaaGreatDoor
namespace Go.Proofs.YtjecgaiaiophpaaGreatDoor
open Go Wk
open Go.RowKit (Below)
attribute [local irreducible] Go.Calls
theorem sl4 {p1 p2 p3 p4:Option Addr} {l1 q1 l2 q2 l3 q3 l4 q4:Nat}: ∀x∈([.slice p1 l1 q1,.slice p2 l2 q2,.slice p3 l3 q3,.slice p4 l4 q4]:List Value),x.oneCell'=true:=by
 intro x hx
 simp at hx
 rcases hx with rfl|rfl|rfl|rfl<;>rfl
end Go.Proofs.YtjecgaiaiophpaaGreatDoor
namespace Go.Proofs.YtjecgaiaiophpaaGreatDoor
open Go Wk
open Go.RowKit (Below)
attribute [local irreducible] Go.Calls
theorem Ou {N:Nat→Bn} {S S':St} {n i:Nat} (hn:InN N n) (hi:i<n) (h: ∀k,k<n→S k=S' k):EC N S i=EC N S' i:=by
 unfold EC
 apply List.filter_congr
 intro k hk
 rw [h k (hn i hi k hk)]
def uM (g:Giv) (i:Int) (lo:Nat) (r:Value) (w':World):Prop:=
 if qf g≠0 then r=.tuple #[.slice none 0 0,vi (qf g)]
 else if i<0∨(g.tree.length:Int)≤i then r=.tuple #[.slice none 0 0,vi 1]
 else if (rowOf (nX g) (wM g).2 i.toNat).1≠8 then r=.tuple #[.slice none 0 0,vi 0]
 else ∃v,r=.tuple #[v,vi 0]∧ny (Wk.one viN) 3 1 (fun b=>lo≤b) NoB w' v (LQ (EC (nX g) (wM g).2) g.tree.length i.toNat)
theorem VF {g:Giv} {i:Int} {lo:Nat} {w':World} (he:qf g≠0):uM g i lo (.tuple #[.slice none 0 0,vi (qf g)]) w':=by unfold uM;rw [if_pos he]
theorem PE {g:Giv} {i:Int} {lo:Nat} {w':World} (he:qf g=0) (h:i<0∨(g.tree.length:Int)≤i):uM g i lo (.tuple #[.slice none 0 0,vi 1]) w':=by unfold uM;rw [if_neg (fun e=>e he),if_pos h]
theorem VG {g:Giv} {i:Nat} {lo:Nat} {w':World} (he:qf g=0) (h:i<g.tree.length) (h8:(rowOf (nX g) (wM g).2 i).1≠8):uM g i lo (.tuple #[.slice none 0 0,vi 0]) w':=by unfold uM;rw [if_neg (fun e=>e he),if_neg (by omega),Int.toNat_natCast,if_pos h8]
theorem XA {g:Giv} {i:Nat} {lo:Nat} {w':World} {v:Value} (he:qf g=0) (h:i<g.tree.length) (h8:(rowOf (nX g) (wM g).2 i).1=8) (o:ny (Wk.one viN) 3 1 (fun b=>lo≤b) NoB w' v (LQ (EC (nX g) (wM g).2) g.tree.length i)):uM g i lo (.tuple #[v,vi 0]) w':=by
 unfold uM;rw [if_neg (fun e=>e he),if_neg (by omega),Int.toNat_natCast,if_neg (fun e=>e h8)];exact ⟨v,rfl,o⟩
section
variable {Pb:Nat→Prop} {w:World} {g:Giv} {tv cv fv gv:Value}
theorem JE {i:Int} (h:RdG Pb w g tv cv fv gv) (sh:Oo g):
 Calls Tryz.prog 30 #[.agg #[tv,cv,fv,gv],vi i] w (Ret fun r w'=>uM g i w.heap.size r w'∧New w w'):=by
 obtain ⟨ta,tc,rfl,_,_⟩:=h.t.form
 obtain ⟨ca,cc,rfl,_,_⟩:=h.c.form
 obtain ⟨fa,fc,rfl,_,_⟩:=h.f.form
 obtain ⟨ga,gc,rfl,_,_⟩:=h.g.form
 refine mQ Tryz.func30 rfl Tryz.ntmps30 rfl ?_
 (repeat' (first|refine aj ?_|refine ai ?_))
 refine bJ rfl fun w1 b1 n1 s1=>?_
 replace b1:Bk w1 w.heap.size 27 [.slice ta g.tree.length tc,.slice ca g.cards.length cc,.slice fa g.fails.length fc,.slice ga g.gone.length gc]:=b1
 (repeat' (first|refine aa1 ?_|refine af ?_|refine ah ?_|refine aj ?_|refine ai ?_))
 refine dh b1 rfl rfl ?_
 refine ay (D6 (h.keep n1.keep qx) sh) rfl ?_
 rintro _ w3 ⟨hr,n3⟩
 have n03:=New.trans n1 n3
 have hz1:=n1.size
 have hz3:=n3.size
 by_cases he:qf g=0
 ·rw [if_pos he] at hr
  have hok:=(xh.1 he).1
  have htl:=oN hok
  obtain ⟨a,b,c,d,bw,bm,N,fl,nv,ov,rfl,hR,g0,hNl,hNb,hst,_⟩:=hr
  obtain ⟨⟨p1,q1,rfl⟩,⟨p2,q2,rfl⟩,⟨p3,q3,rfl⟩,⟨p4,q4,rfl⟩⟩:=hR.form
  have hrl:=yw g
  rw [show rowsOf (nX g) (rC (nX g) g.fails.contains g.tree.length).2 g.tree.length=wO g from rfl] at hR ⊢
  generalize (rC (nX g) g.fails.contains g.tree.length).1.length=l2 at*
  generalize (Di g.tree fun k=>(rC (nX g) g.fails.contains g.tree.length).2 k == 1).1.length=l3 at*
  generalize (Di g.tree fun k=>(rC (nX g) g.fails.contains g.tree.length).2 k == 1).2.length=l4 at*
  have oR:=hR.rows.rd (nP _)
  clear hR
  obtain ⟨na,nc,hnv,_,_⟩:=g0.nd.row.form
  (repeat' (first|refine aa0 ?_|refine aa8 ?_))
  refine Wl.alloc fun w4 b4 n4 s4=>?_
  refine Wl.alloc fun w5 b5 n5 s5=>?_
  refine aX (new:=[.slice p1 (wO g).length q1,.slice p2 l2 q2,.slice p3 l3 q3,.slice p4 l4 q4]) (b4.chg n5 fun e=>e) rfl rfl rfl rfl (show (4:Nat)≤4 from Nat.le_refl 4) sl4 fun w6 b6 c6 s6=>?_
  refine bH (u:=pT bw) (b5.chg c6 fun e=>by omega) rfl (show (0:Nat)<1 by omega) rfl rfl fun w7 b7 c7=>?_
  have n35:=New.trans n4 n5
  have n36:New w3 w6:=(Chg.trans (M:=fun k=>w3.heap.size≤k) n35.any c6 fun k _ e=>by omega).toNew fun k hk e=>by omega
  have hz4:=n4.size
  have n37:New w3 w7:=(Chg.trans (M:=fun k=>w3.heap.size≤k) n36.any c7 fun k _ e=>by omega).toNew fun k hk e=>by omega
  replace b7:Bk w7 w4.heap.size 42 [pT bw]:=b7
  have b67:=b6.chg c7 fun e=>by omega
  replace b67:Bk w7 w3.heap.size 33 [.slice p1 (wO g).length q1,.slice p2 l2 q2,.slice p3 l3 q3,.slice p4 l4 q4]:=b67
  have g7:=g0.new n37
  have n07:=New.trans n03 n37
  have oR7:=oR.keep (nU _) n37.keep
  clear b4 b5 b6 c6 c7 n4 n5 n35 n36 oR g0 b1
  subst hnv
  (repeat' (first|refine aa0 ?_|refine aa1 ?_|refine af ?_|refine aa6 ?_|refine qi ?_|refine pG ?_|refine ah ?_|refine aj ?_|refine ai ?_|refine Wc.block ?_|refine ax ?_|refine aN ?_|refine bf ?_|refine aa3 ?_|refine aa4 ?_|refine aa9 (fun _=>?_) (fun _=>?_)|(refine pV (fun _=>?_) (fun _=>?_)<;>(first|(exfalso;omega)|skip))))
  ·exact aW rfl rfl rfl ⟨_,rfl,PE he (.inl (by omega)),n07⟩
  ·refine au (u:=pT bw) rfl (b7.cell (o:=0) rfl) ?_
   (repeat' (first|refine aa6 ?_|refine bI rfl ?_|refine aa5 ?_))
   refine au (u:=.slice na N.length nc) rfl (g7.b.cell (o:=0) rfl) ?_
   (repeat' (first|refine aa1 ?_|refine af ?_|refine aa6 ?_|refine pq ?_|refine aO rfl ?_|refine ah ?_|refine aj ?_|refine ai ?_|refine ax ?_|refine aN ?_|refine bf ?_|refine aa3 ?_|refine aa4 ?_|refine aa5 ?_|refine cZ rfl rfl (fun _=>?_) (fun _=>?_)))
   ·exact aW rfl rfl rfl ⟨_,rfl,PE he (.inr (by omega)),n07⟩
   ·obtain ⟨i,rfl⟩:=Int.eq_ofNat_of_zero_le (show 0≤i by omega)
    have hi:i<g.tree.length:=by omega
    have g1:=vY (g:=g) hi
    refine au (u:=.slice p1 (wO g).length q1) rfl (b67.cell (o:=0) rfl) ?_
    (repeat' (refine aa0 ?_))
    refine bD oR7 rfl rfl (by omega) (by rw [Int.toNat_natCast];exact g1) fun b o cs hl hR hat=>?_
    obtain rfl:cs=rwC _:=hR
    (repeat' (refine aa5 ?_))
    refine au (u:=.int .u8 (rowOf (nX g) (wM g).2 i).1) rfl (hat.get 0 rfl) ?_
    clear hat
    by_cases h8:(rowOf (nX g) (wM g).2 i).1=8
    ·rw [h8]
     (repeat' (first|refine aa1 ?_|refine af ?_|refine ah ?_|refine aj ?_|refine ai ?_|refine Wc.skip ?_|refine aJ ?_|refine aa4 ?_|(refine pV (fun _=>?_) (fun _=>?_)<;>(first|(exfalso;omega)|skip))))
     refine au (u:=pT bw) rfl (b7.cell (o:=0) rfl) ?_
     (repeat' (first|refine bI rfl ?_|refine aa5 ?_))
     refine au (u:=.slice na N.length nc) rfl (g7.b.cell (o:=0) rfl) ?_
     (repeat' (first|refine aa0 ?_|refine aO rfl ?_))
     refine dL (f1:=[]) (c1:=[pT w4.heap.size]) rfl rfl ?_
     rw [hNl]
     have hz7:=n37.size
     refine ay (LU (n:=g.tree.length) (i:=i) (Wn:=EC (nX g) (wM g).2) (fun W nW j hj=>?_) (fun j hj k hk=>D5 hok j hj k (List.mem_filter.1 hk).1) htl hi) rfl ?_
     ·refine (G8 (i:=j) (g7.new nW) (b7.chg nW fun e=>e) (by omega) (by rw [hNb];exact Ri hok j)).mono ?_
      rintro _ w'' ⟨r,rfl,o,n⟩
      rw [hNb,Ou (D5 hok) hj hst] at o
      exact ⟨r,rfl,(o.rd (nD _)).mono (nD _) fun b _ hb=>.inl (hb.elim id fun e=>e.elim),n⟩
     ·rintro v w8 ⟨oV,n8⟩
      have adf:=n07.size
      (repeat' (first|refine aa1 ?_|refine af ?_|refine ah ?_|refine ax ?_))
      exact aW rfl rfl rfl ⟨_,rfl,XA he hi h8 (oV.mono (nD _) (fun b _ e=>by have e:w7.heap.size≤b:=e;show w.heap.size≤b;omega) (fun _ _ e=>e)),New.trans n07 n8⟩
    ·generalize hx1:(rowOf (nX g) (wM g).2 i).1=x1 at*
     (repeat' (first|refine aa1 ?_|refine af ?_|refine ah ?_|refine aj ?_|refine ai ?_|refine ax ?_|refine aN ?_|refine bf ?_|refine aa3 ?_|(refine pV (fun _=>?_) (fun _=>?_)<;>(first|(exfalso;omega)|skip))))
     exact aW rfl rfl rfl ⟨_,rfl,VG he hi (by rw [hx1];exact h8),n07⟩
 ·rw [if_neg he] at hr
  subst hr
  (repeat' (first|refine aa0 ?_|refine aa8 ?_))
  refine Wl.alloc fun w4 b4 n4 s4=>?_
  refine Wl.alloc fun w5 b5 n5 s5=>?_
  refine aX (new:=Az) (b4.chg n5 fun e=>e) rfl rfl rfl rfl (show (4:Nat)≤4 from Nat.le_refl 4) Ez fun w6 b6 c6 s6=>?_
  refine bH (u:=.pointer none) (b5.chg c6 fun e=>by omega) rfl (show (0:Nat)<1 by omega) rfl rfl fun w7 b7 c7=>?_
  have n35:=New.trans n4 n5
  have n36:New w3 w6:=(Chg.trans (M:=fun k=>w3.heap.size≤k) n35.any c6 fun k _ e=>by omega).toNew fun k hk e=>by omega
  have hz4:=n4.size
  have n37:New w3 w7:=(Chg.trans (M:=fun k=>w3.heap.size≤k) n36.any c7 fun k _ e=>by omega).toNew fun k hk e=>by omega
  have fin:=VF (i:=i) (lo:=w.heap.size) (w':=w7) he
  generalize qf g=ne at*
  (repeat' (first|refine aa0 ?_|refine aa1 ?_|refine af ?_|refine ah ?_|refine aj ?_|refine ai ?_|refine Wc.block ?_|refine ax ?_|refine aN ?_|refine bf ?_|refine aa3 ?_|(refine pV (fun _=>?_) (fun _=>?_)<;>(first|(exfalso;omega)|skip))))
  exact aW rfl rfl rfl ⟨_,rfl,fin,New.trans n03 n37⟩
end
end Go.Proofs.YtjecgaiaiophpaaGreatDoor
namespace Go.Proofs.YtjecgaiaiophpaaGreatDoor
open Go Wk
open Go.RowKit (Below)
attribute [local irreducible] Go.Calls
end Go.Proofs.YtjecgaiaiophpaaGreatDoor
namespace Go.Proofs.YtjecgaiaiophpaaGreatDoor
open Go
end Go.Proofs.YtjecgaiaiophpaaGreatDoor
namespace Go.Proofs.YtjecgaiaiophpaaGreatDoor
open Go
end Go.Proofs.YtjecgaiaiophpaaGreatDoor
namespace Go.Proofs.YtjecgaiaiophpaaGreatDoor
open Go
abbrev rT:List Nd:=[⟨-1,[],[]⟩]
abbrev rG (gn:List Nm):Giv:=⟨rT,[],[],gn⟩
theorem UC:nV rT=true:=by decide+kernel
theorem LY:qf ⟨[],[],[],[]⟩=40:=by decide+kernel
theorem LZ:qf ⟨rT,[⟨[],[],0,[],0,[],0⟩],[],[]⟩=70:=by decide+kernel
theorem D8 (f gn:List Nm) (h1:f.length≤512) (h2:gn.length≤512):qf ⟨rT,[],f,gn⟩=0:=xh.2 ⟨UC,rfl,h1,h2⟩
theorem EY (f gn:List Nm) (h:512<f.length∨512<gn.length):qf ⟨rT,[],f,gn⟩=1:=by
 unfold qf
 dsimp only
 rw [UC,show sK []=true by decide+kernel]
 simp only [Bool.true_eq_false,if_false,if_pos h]
theorem UD:nY rT=[]:=by decide+kernel
theorem UE:qF rT 0=false:=by decide+kernel
theorem Zi:onM rT 0=true:=by decide+kernel
theorem Gy (gn:List Nm):firstM (rG gn) 0=match sG (rG gn) 0 with|some k=>(6,(k:Int))|none=>(0, -1):=by
 unfold firstM
 dsimp only
 rw [Zi,UE]
 simp
 cases sG (rG gn) 0<;>rfl
theorem Dp (gn:List Nm):nX (rG gn) 0={path:=oz rT 0,device:=false,level:=0,reason:=(firstM (rG gn) 0).1,card:=none,why:=(firstM (rG gn) 0).2,wants:=[]}:=by
 unfold nX
 rw [if_pos (show 0<rT.length from Nat.lt_succ_self 0)]
 unfold zX xg
 dsimp only
 rw [UD,UE]
 simp
theorem PG:sG (rG []) 0=none:=by decide+kernel
theorem VH:sG (rG [[47]]) 0=some 0:=by decide+kernel
theorem Zj:(rowOf (nX (rG [])) (wM (rG [])).2 0).1=0:=by
 refine (QW (g:=rG []) UC (rG []).fails.contains (by decide)).2 (.mk 0 ?_ ?_ ?_)
 ·rw [Dp,Gy,PG]
 ·rw [Dp];rfl
 ·rw [Dp];intro n hn;cases hn
theorem XB:rowOf (nX (rG [[47]])) (wM (rG [[47]])).2 0=(6,none,0):=by
 have h:nX (rG [[47]]) 0={path:=oz rT 0,device:=false,level:=0,reason:=6,card:=none,why:=0,wants:=[]}:=by rw [Dp,Gy,VH];rfl
 rw [Rh (by rw [h];decide),h]
theorem Zk {fl:Nm→Bool} {S:St} (h:S 0=0):(rowOf (nX (rG [])) ((qE (nX (rG [])) fl S 0).getD S) 0).1=0:=by
 have hn:nX (rG []) 0={path:=oz rT 0,device:=false,level:=0,reason:=0,card:=none,why:= -1,wants:=[]}:=by rw [Dp,Gy,PG]
 have hl:qE (nX (rG [])) fl S 0=some (fun k=>if k=0 then 1 else S k):=by
  unfold qE
  rw [if_pos ⟨by rw [hn],h,Eu.2 (by rw [hn];intro n hn;cases hn)⟩,hn]
  simp
 rw [hl,Option.getD_some]
 exact Ey.2 ⟨by rw [hn],by simp⟩
end Go.Proofs.YtjecgaiaiophpaaGreatDoor
namespace Go.Proofs.YtjecgaiaiophpaaGreatDoor
open Go Wk
open Go.RowKit (Below)
attribute [local irreducible] Go.Calls
abbrev row0:List Value:=[.int .u8 0,vi 0,vi 0]
theorem PI: ∀c∈row0,c.oneCell'=true:=by
 intro c hc
 simp at hc
 rcases hc with rfl|rfl<;>rfl
theorem AV {w:World}:(Instr.build 39 #[]).run Tryz.prog w=.ok (.agg row0.toArray) w:=by
 kernel_rfl
section
variable {Pb:Nat→Prop} {bw bm:Nat} {N:List Nb} {ord:List Nat} {fl:List (Nm×Int)} {nv ov:Value} {W w:World}
theorem VI {i:Int}:Calls Tryz.prog 16 #[.pointer none,vi i] W (Ret fun r w'=>r=.tuple #[.agg #[.int .u8 0,vi 0,vi 0],vi 2]∧New W w'):=by
 refine mQ Tryz.func16 rfl Tryz.ntmps16 rfl ?_
 (repeat' (first|refine aj ?_|refine ai ?_))
 refine Wl.alloc fun w1 b4 n1 s1=>?_
 replace b4:Bk w1 W.heap.size 39 [.int .u8 0,vi 0,vi 0]:=b4
 (repeat' (first|refine aa0 ?_|refine aa1 ?_|refine af ?_|refine ah ?_|refine aj ?_|refine ai ?_|refine Wc.block ?_))
 refine fU rfl rfl ?_
 (repeat' (first|refine aa1 ?_|refine af ?_|refine ah ?_|refine aj ?_|refine ai ?_|refine aa3 ?_))
 refine fE (ps:=[]) (parts:=[]) rfl AV ?_
 refine aX (new:=row0) b4 rfl rfl rfl rfl (show (3:Nat)≤3 from Nat.le_refl 3) PI fun w2 b5 c5 s5=>?_
 replace b5:Bk w2 W.heap.size 39 row0:=b5
 (repeat' (first|refine aa1 ?_|refine af ?_|refine ah ?_|refine ax ?_|refine aN ?_|refine bf ?_))
 exact eP (sD (a:=.cell 4 39) (b:=.tmp 5) rfl (rO rfl rfl b5 rfl) (qo rfl)) ⟨_,rfl,rfl,(Chg.trans n1.any c5 fun _ _ e=>e).toNew fun k hk e=>by omega⟩
theorem Rj:Calls Tryz.prog 20 #[.pointer none] W (Ret fun r w'=>r=.slice none 0 0∧New W w'):=by
 refine mQ Tryz.func20 rfl Tryz.ntmps20 rfl ?_
 (repeat' (first|refine aa0 ?_|refine aa1 ?_|refine af ?_|refine ah ?_|refine aj ?_|refine ai ?_))
 refine fU rfl rfl ?_
 (repeat' (first|refine aa1 ?_|refine af ?_|refine ah ?_|refine aj ?_|refine ai ?_|refine ax ?_|refine aN ?_|refine aa3 ?_))
 exact aA rfl rfl ⟨_,rfl,rfl,aV _ _⟩
theorem UF:Calls Tryz.prog 18 #[.pointer none] W (Ret fun r w'=>r=.slice none 0 0∧New W w'):=by
 refine mQ Tryz.func18 rfl Tryz.ntmps18 rfl ?_
 (repeat' (first|refine aa0 ?_|refine aa1 ?_|refine af ?_|refine ah ?_|refine aj ?_|refine ai ?_))
 refine fU rfl rfl ?_
 (repeat' (first|refine aa1 ?_|refine af ?_|refine ah ?_|refine aj ?_|refine ai ?_|refine ax ?_|refine aN ?_|refine aa3 ?_))
 exact aA rfl rfl ⟨_,rfl,rfl,aV _ _⟩
theorem VJ {i:Nat} (g:WkM Pb bw bm N ord fl nv ov W) (hi:N.length≤i):Calls Tryz.prog 16 #[pT bw,vi i] W (Ret fun r w'=>r=.tuple #[.agg #[.int .u8 0,vi 0,vi 0],vi 1]∧New W w'):=by
 have hnl:=g.nl
 obtain ⟨na,nc,rfl,_,_⟩:=g.nd.row.form
 refine mQ Tryz.func16 rfl Tryz.ntmps16 rfl ?_
 (repeat' (first|refine aj ?_|refine ai ?_))
 refine Wl.alloc fun w1 b4 n1 s1=>?_
 replace b4:Bk w1 W.heap.size 39 [.int .u8 0,vi 0,vi 0]:=b4
 have g1:=g.new n1
 (repeat' (first|refine aa0 ?_|refine aa1 ?_|refine af ?_|refine ah ?_|refine aj ?_|refine ai ?_|refine Wc.block ?_))
 refine fU rfl rfl ?_
 (repeat' (first|refine aa0 ?_|refine aa1 ?_|refine af ?_|refine aa6 ?_|refine ah ?_|refine aj ?_|refine ai ?_|refine aa4 ?_|refine bI rfl ?_|refine aa5 ?_|(refine aa9 (fun _=>?_) (fun _=>?_)<;>(first|(exfalso;omega)|skip))))
 refine au (u:=.slice na N.length nc) rfl (g1.b.cell (o:=0) rfl) ?_
 (repeat' (first|refine aa1 ?_|refine af ?_|refine aa6 ?_|refine pq ?_|refine aO rfl ?_|refine ah ?_|refine aj ?_|refine ai ?_|refine aa3 ?_|(refine cZ rfl rfl (fun _=>?_) (fun _=>?_)<;>(first|(exfalso;omega)|skip))))
 refine fE (ps:=[]) (parts:=[]) rfl AV ?_
 refine aX (new:=row0) b4 rfl rfl rfl rfl (show (3:Nat)≤3 from Nat.le_refl 3) PI fun w2 b5 c5 s5=>?_
 replace b5:Bk w2 W.heap.size 39 row0:=b5
 (repeat' (first|refine aa1 ?_|refine af ?_|refine ah ?_|refine ax ?_|refine aN ?_|refine bf ?_))
 exact eP (sD (a:=.cell 4 39) (b:=.tmp 5) rfl (rO rfl rfl b5 rfl) (qo rfl)) ⟨_,rfl,rfl,(Chg.trans n1.any c5 fun _ _ e=>e).toNew fun k hk e=>by omega⟩
end
section
variable {Pb:Nat→Prop} {w:World} {g:Giv} {tv cv fv gv:Value}
theorem L6 {i:Nat} (h:RdG Pb w g tv cv fv gv) (sh:Oo g) (he:qf g=0) (hi:g.tree.length≤i):
 Calls Tryz.prog 32 #[.agg #[tv,cv,fv,gv],vi i] w (Ret fun r w'=>r=.tuple #[.slice none 0 0,vi 1]∧New w w'):=by
 obtain ⟨ta,tc,rfl,_,_⟩:=h.t.form
 obtain ⟨ca,cc,rfl,_,_⟩:=h.c.form
 obtain ⟨fa,fc,rfl,_,_⟩:=h.f.form
 obtain ⟨ga,gc,rfl,_,_⟩:=h.g.form
 refine mQ Tryz.func32 rfl Tryz.ntmps32 rfl ?_
 (repeat' (first|refine aj ?_|refine ai ?_))
 refine bJ rfl fun w1 b1 n1 s1=>?_
 replace b1:Bk w1 w.heap.size 27 [.slice ta g.tree.length tc,.slice ca g.cards.length cc,.slice fa g.fails.length fc,.slice ga g.gone.length gc]:=b1
 (repeat' (first|refine aa1 ?_|refine af ?_|refine ah ?_|refine aj ?_|refine ai ?_))
 refine dh b1 rfl rfl ?_
 refine ay (D6 (h.keep n1.keep qx) sh) rfl ?_
 rintro _ w3 ⟨hr,n3⟩
 have n03:=New.trans n1 n3
 rw [if_pos he] at hr
 obtain ⟨a,b,c,d,bw,bm,N,fl,nv,ov,rfl,hR,g0,hNl,hNb,hst,_⟩:=hr
 obtain ⟨⟨p1,q1,rfl⟩,⟨p2,q2,rfl⟩,⟨p3,q3,rfl⟩,⟨p4,q4,rfl⟩⟩:=hR.form
 clear hR
 obtain ⟨na,nc,rfl,_,_⟩:=g0.nd.row.form
 (repeat' (first|refine aa0 ?_|refine aa8 ?_))
 refine Wl.alloc fun w4 b4 n4 s4=>?_
 refine aX (new:=[.slice p1 _ q1,.slice p2 _ q2,.slice p3 _ q3,.slice p4 _ q4]) b4 rfl rfl rfl rfl (show (4:Nat)≤4 from Nat.le_refl 4) sl4 fun w6 b6 c6 s6=>?_
 have n36:New w3 w6:=(Chg.trans n4.any c6 fun _ _ e=>e).toNew fun k hk e=>by omega
 have g6:=g0.new n36
 (repeat' (first|refine aa0 ?_|refine aa1 ?_|refine af ?_|refine aa6 ?_|refine ah ?_|refine aj ?_|refine ai ?_|refine Wc.block ?_|refine aa4 ?_|refine bI rfl ?_|refine aa5 ?_|(refine aa9 (fun _=>?_) (fun _=>?_)<;>(first|(exfalso;omega)|skip))|(refine pV (fun _=>?_) (fun _=>?_)<;>(first|(exfalso;omega)|skip))))
 refine au (u:=.slice na N.length nc) rfl (g6.b.cell (o:=0) rfl) ?_
 (repeat' (first|refine aa1 ?_|refine af ?_|refine aa6 ?_|refine pq ?_|refine aO rfl ?_|refine ah ?_|refine aj ?_|refine ai ?_|refine ax ?_|refine aN ?_|refine bf ?_|refine aa3 ?_|(refine cZ rfl rfl (fun _=>?_) (fun _=>?_)<;>(first|(exfalso;omega)|skip))))
 exact aW rfl rfl rfl ⟨_,rfl,rfl,New.trans n03 n36⟩
end
end Go.Proofs.YtjecgaiaiophpaaGreatDoor
namespace Go.Proofs.YtjecgaiaiophpaaGreatDoor
open Go Wk
open Go.RowKit (Below)
attribute [local irreducible] Go.Calls
section
variable {P:Program} {n:Nat} {ds:List Deferred} {Q:Po} {F:Fr} {w:World} {ops rest:List Oper} {d:Nat} {ty:TypeId} {pos:String} {aft:Array Edge} {Pe:Nat→Prop}
theorem mM {α:Type} {f:α→List Value} {y0:α} {x y:Operand} {t e:TypeId} {sz bytes:Nat} {agg:Bool} {z:Value} {kl kc:IntKind}
 [ht:Und P t (.slice e)] [he:ElT P e sz bytes agg z] (hz0:(madeCells z.cells sz).toList=f y0) (hx:ev n F x=.int kl 1) (hy:ev n F y=.int kc 1) (hby:bytes≤281474976710656)
 (c: ∀v w',ny (flat f) e sz (fun b=>w.heap.size≤b) Pe w' v [y0]→New w w'→Wl P n ds Q ops rest (upd F d v) w'):
 Wl P n ds Q ops (⟨some d,.makeSlice t x y,ty,pos,aft,none⟩::rest) F w:=by
 obtain ⟨i,hi,hsz',MF,hz'⟩:=he.inf
 have hr:=run_make (P:=P) w t e i z ht.h hi hz' kl kc (1:Nat) (1:Nat) (by omega) (Int.le_refl _) (by rw [MF];omega) (by omega)
 simp only [Int.toNat_natCast,hsz',Nat.one_mul] at hr
 have hfl:(f y0).length=sz:=by rw [←hz0];simp [size_madeCells]
 refine Wl.val (v:=.slice (some ⟨w.heap.size,0,none⟩) 1 1) (w':=w.alloc (.cells (madeCells z.cells sz) e)) ?_ (c _ _ ⟨f y0,⟨by rw [hfl];simp,.inr ⟨w.heap.size,1,madeCells z.cells sz,rfl,Nat.le_refl _,heap_alloc_new w _,Nat.le_refl _,by unfold maxLen;omega,by rw [size_madeCells];simp,?_⟩⟩,fun i x hx=>?_⟩ (Chg.alloc _ _ _))
 ·simp only [execOp,hx,hy,Sem.run_bind]
  have hr':(Instr.makeSlice t (.int kl 1) (.int kc 1)).run P w=.ok (.slice (some ⟨w.heap.size,0,none⟩) 1 1) (w.alloc (.cells (madeCells z.cells sz) e)):=hr
  simp only [hr',Result.andThen_ok,Sem.run_pure]
 ·rw [hz0,List.take_of_length_le (by rw [hfl];simp)]
 ·cases i with
  |zero=>
   cases hx
   show ((f y0).drop (0*sz)).take sz=f y0
   rw [Nat.zero_mul,List.drop_zero,List.take_of_length_le (by rw [hfl];exact Nat.le_refl _)]
  |succ i=>simp at hx
end
theorem JF {w:World}:(Instr.build 27 #[]).run Tryz.prog w=.ok (.agg Az.toArray) w:=by
 kernel_rfl
theorem JG {t:List Nd} {c:List Cd} {f g:List Nm} (hf: ∀x∈f,x.length≤1) (hg: ∀x∈g,x.length≤1):Oo ⟨t,c,f,g⟩:=⟨fun x hx=>by have:=hf x hx;omega,fun x hx=>by have:=hg x hx;omega⟩
theorem XD {n:Nat}: ∀x∈List.replicate n ([]:Nm),x.length≤1:=fun x hx=>by rw [(List.mem_replicate.1 hx).2];simp
theorem UG {w:World}:Calls Tryz.prog 9 #[] w (Ret fun v w'=>v=.bool true∧New w w'):=by
 refine mQ Tryz.func9 rfl Tryz.ntmps9 rfl ?_
 (repeat' (first|refine aa0 ?_|refine aa1 ?_|refine af ?_|refine ah ?_|refine aj ?_|refine ai ?_))
 refine ay VI rfl ?_
 rintro _ w1 ⟨rfl,n1⟩
 (repeat' (first|refine aa0 ?_|refine aa8 ?_))
 refine Wl.alloc fun w2 b2 n2 s2=>?_
 refine aX (new:=row0) b2 rfl rfl rfl rfl (show (3:Nat)≤3 from Nat.le_refl 3) PI fun w3 b3 c3 s3=>?_
 have n03:New w w3:=New.trans n1 ((Chg.trans n2.any c3 fun _ _ e=>e).toNew fun k hk e=>by omega)
 clear b2 n2 b3 c3 s2 s3
 have nn:=n03
 clear n03
 (repeat' (first|refine aa1 ?_|refine af ?_|refine ah ?_|refine aj ?_|refine ai ?_))
 refine fE (ps:=[]) (parts:=[]) rfl JF ?_
 refine ay (sS (show RdG (fun _=>True) w3 ⟨[],[],[],[]⟩ _ _ _ _ from ⟨bP,bP,bP,bP⟩) (JG (by simp) (by simp))) rfl ?_
 rintro _ w4 ⟨hr,n4⟩
 unfold sH at hr
 rw [if_neg (by rw [LY];decide),LY] at hr
 subst hr
 (repeat' (first|refine aa0 ?_|refine aa8 ?_))
 refine Wl.alloc fun w5 b5 n5 s5=>?_
 refine aX (new:=Az) b5 rfl rfl rfl rfl (show (4:Nat)≤4 from Nat.le_refl 4) Ez fun w6 b6 c6 s6=>?_
 have n46:New w4 w6:=(Chg.trans n5.any c6 fun _ _ e=>e).toNew fun k hk e=>by omega
 have m6:=New.trans n4 n46
 replace nn:=New.trans nn m6
 clear b5 n5 b6 c6 s5 s6 n46 n4 m6
 (repeat' (first|refine aa1 ?_|refine af ?_|refine ah ?_|refine aj ?_|refine ai ?_))
 refine bZ (ps:=[(0,.const (vi (-1)))]) (parts:=[(0,vi (-1))]) rfl rfl (by simp [Value.cells]) ?_
 refine dB (R:=flat noV) (Pe:=NoB) (y:=(⟨-1,[],[]⟩,(none,0,0))) Pz rfl rfl rfl rfl (by omega) (by omega) fun v7 w7 o7 n7 s7 e7=>?_
 obtain ⟨a7,c7,rfl,_,_⟩:=o7.form
 have hT:RdS rNd 3 (fun _=>True) w7 (.slice a7 1 c7) rT:=by
  have h1:=(o7.rd (nP noV)).mono (Pb':=fun _=>True) (nP noV) fun _ _ _=>trivial
  refine EX (R':=rNd) (fun p:Nd×SV=>p.1) h1 fun x hx cs hcs=>⟨svV x.2,hcs,?_⟩
  simp only [List.mem_cons,List.not_mem_nil,or_false] at hx
  subst hx
  exact bP
 replace nn:=New.trans nn n7
 clear o7 n7 s7 e7
 (repeat' (first|refine aa0 ?_|refine aa1 ?_|refine af ?_|refine ah ?_|refine aj ?_|refine ai ?_))
 refine bZ (ps:=[(0,.tmp 42)]) (parts:=[(0,.slice a7 1 c7)]) rfl rfl (by simp [Value.cells]) ?_
 refine ay (sS (show RdG (fun _=>True) w7 (rG []) _ _ _ _ from ⟨hT,bP,bP,bP⟩) (JG (by simp) (by simp))) rfl ?_
 rintro _ w8 ⟨hr,n8⟩
 unfold sH at hr
 rw [if_pos (D8 [] [] (by simp) (by simp))] at hr
 obtain ⟨ra,rb,rc,rd,rfl,hR8⟩:=hr
 obtain ⟨⟨p81,q81,rfl⟩,⟨p82,q82,rfl⟩,⟨p83,q83,rfl⟩,⟨p84,q84,rfl⟩⟩:=hR8.form
 (repeat' (first|refine aa0 ?_|refine aa8 ?_))
 refine Wl.alloc fun w9 b9 n9 s9=>?_
 refine aX (new:=[.slice p81 _ q81,.slice p82 _ q82,.slice p83 _ q83,.slice p84 _ q84]) b9 rfl rfl rfl rfl (show (4:Nat)≤4 from Nat.le_refl 4) sl4 fun w10 b10 c10 s10=>?_
 have G6:New w8 w10:=(Chg.trans n9.any c10 fun _ _ e=>e).toNew fun k hk e=>by omega
 have m10:=New.trans n8 G6
 replace nn:=New.trans nn m10
 replace hT:=hT.keep nO m10.keep
 have bA:=b10
 have bAR:=hR8.new G6
 clear hR8
 clear b9 n9 b10 c10 s9 s10 G6 n8 m10
 (repeat' (first|refine aa0 ?_|refine aa1 ?_|refine af ?_|refine ah ?_|refine aj ?_|refine ai ?_))
 refine mM (f:=cdV) (y0:=(⟨[],[],0,[],0,[],0⟩,(none,0,0))) (Pe:=NoB) (by kernel_rfl) rfl rfl (by omega) fun vC w11 oC nC=>?_
 replace nn:=New.trans nn nC
 replace hT:=hT.keep nO nC.keep
 replace bA:=bA.chg nC fun e=>e
 replace bAR:=bAR.new nC
 obtain ⟨aC,cC,rfl,_,_⟩:=oC.form
 have hC:RdS rCd 7 (fun _=>True) w11 (.slice aC 1 cC) [⟨[],[],0,[],0,[],0⟩]:=by
  have h1:=(oC.rd (nP cdV)).mono (Pb':=fun _=>True) (nP cdV) fun _ _ _=>trivial
  refine EX (R':=rCd) (fun p:Cd×SV=>p.1) h1 fun x hx cs hcs=>⟨svV x.2,hcs,?_⟩
  simp only [List.mem_cons,List.not_mem_nil,or_false] at hx
  subst hx
  exact bP
 clear oC nC
 skip
 refine bZ (ps:=[(0,.tmp 48),(1,.tmp 49)]) (parts:=[(0,.slice a7 1 c7),(1,.slice aC 1 cC)]) rfl rfl (by simp [Value.cells]) ?_
 refine ay (sS (show RdG (fun _=>True) w11 ⟨rT,[⟨[],[],0,[],0,[],0⟩],[],[]⟩ _ _ _ _ from ⟨hT,hC,bP,bP⟩) (JG (by simp) (by simp))) rfl ?_
 rintro _ w12 ⟨hr,n12⟩
 unfold sH at hr
 rw [if_neg (by rw [LZ];decide),LZ] at hr
 subst hr
 (repeat' (first|refine aa0 ?_|refine aa8 ?_))
 refine Wl.alloc fun w13 b13 n13 s13=>?_
 refine aX (new:=Az) b13 rfl rfl rfl rfl (show (4:Nat)≤4 from Nat.le_refl 4) Ez fun w14 b14 c14 s14=>?_
 have V9:New w12 w14:=(Chg.trans n13.any c14 fun _ _ e=>e).toNew fun k hk e=>by omega
 have m14:=New.trans n12 V9
 replace nn:=New.trans nn m14
 replace hT:=hT.keep nO m14.keep
 replace bA:=bA.chg m14 fun e=>e
 replace bAR:=bAR.new m14
 clear b13 n13 b14 c14 s13 s14 V9 n12 m14
 (repeat' (first|refine aa0 ?_|refine aa1 ?_|refine af ?_|refine ah ?_|refine aj ?_|refine ai ?_))
 refine eF (f:=vs) (y0:=([]:Nm)) (Pe:=NoB) (by rfl) rfl rfl (by omega) (by omega) (by omega) fun vF w15 oF nF=>?_
 replace nn:=New.trans nn nF
 replace hT:=hT.keep nO nF.keep
 replace bA:=bA.chg nF fun e=>e
 replace bAR:=bAR.new nF
 have hF:RdS (Wk.one vs) 1 (fun _=>True) w15 vF (List.replicate 513 []):=(oF.rd (nD _)).mono (nD _) fun _ _ _=>trivial
 obtain ⟨aF,cF,rfl,_,_⟩:=hF.form
 clear oF nF
 skip
 refine bZ (ps:=[(0,.tmp 55),(2,.tmp 56)]) (parts:=[(0,.slice a7 1 c7),(2,.slice aF _ cF)]) rfl rfl (by simp [Value.cells]) ?_
 refine ay (sS (show RdG (fun _=>True) w15 ⟨rT,[],List.replicate 513 [],[]⟩ _ _ _ _ from ⟨hT,bP,hF,bP⟩) (JG XD (by simp))) rfl ?_
 rintro _ w16 ⟨hr,n16⟩
 unfold sH at hr
 rw [if_neg (by rw [EY (List.replicate 513 []) [] (.inl (by rw [List.length_replicate];decide))];decide),EY (List.replicate 513 []) [] (.inl (by rw [List.length_replicate];decide))] at hr
 subst hr
 (repeat' (first|refine aa0 ?_|refine aa8 ?_))
 refine Wl.alloc fun w17 b17 n17 s17=>?_
 refine aX (new:=Az) b17 rfl rfl rfl rfl (show (4:Nat)≤4 from Nat.le_refl 4) Ez fun w18 b18 c18 s18=>?_
 have Wh:New w16 w18:=(Chg.trans n17.any c18 fun _ _ e=>e).toNew fun k hk e=>by omega
 have m18:=New.trans n16 Wh
 replace nn:=New.trans nn m18
 replace hT:=hT.keep nO m18.keep
 replace bA:=bA.chg m18 fun e=>e
 replace bAR:=bAR.new m18
 clear b17 n17 b18 c18 s17 s18 Wh n16 m18
 (repeat' (first|refine aa0 ?_|refine aa1 ?_|refine af ?_|refine ah ?_|refine aj ?_|refine ai ?_))
 refine eF (f:=vs) (y0:=([]:Nm)) (Pe:=NoB) (by rfl) rfl rfl (by omega) (by omega) (by omega) fun vG w19 oG nG=>?_
 replace nn:=New.trans nn nG
 replace hT:=hT.keep nO nG.keep
 replace bA:=bA.chg nG fun e=>e
 replace bAR:=bAR.new nG
 have hG:RdS (Wk.one vs) 1 (fun _=>True) w19 vG (List.replicate 513 []):=(oG.rd (nD _)).mono (nD _) fun _ _ _=>trivial
 obtain ⟨aG,cG,rfl,_,_⟩:=hG.form
 clear oG nG
 skip
 refine bZ (ps:=[(0,.tmp 62),(3,.tmp 63)]) (parts:=[(0,.slice a7 1 c7),(3,.slice aG _ cG)]) rfl rfl (by simp [Value.cells]) ?_
 refine ay (sS (show RdG (fun _=>True) w19 ⟨rT,[],[],List.replicate 513 []⟩ _ _ _ _ from ⟨hT,bP,bP,hG⟩) (JG (by simp) XD)) rfl ?_
 rintro _ w20 ⟨hr,n20⟩
 unfold sH at hr
 rw [if_neg (by rw [EY [] (List.replicate 513 []) (.inr (by rw [List.length_replicate];decide))];decide),EY [] (List.replicate 513 []) (.inr (by rw [List.length_replicate];decide))] at hr
 subst hr
 (repeat' (first|refine aa0 ?_|refine aa8 ?_))
 refine Wl.alloc fun w21 b21 n21 s21=>?_
 refine aX (new:=Az) b21 rfl rfl rfl rfl (show (4:Nat)≤4 from Nat.le_refl 4) Ez fun w22 b22 c22 s22=>?_
 have Wi:New w20 w22:=(Chg.trans n21.any c22 fun _ _ e=>e).toNew fun k hk e=>by omega
 have m22:=New.trans n20 Wi
 replace nn:=New.trans nn m22
 replace hT:=hT.keep nO m22.keep
 replace bA:=bA.chg m22 fun e=>e
 replace bAR:=bAR.new m22
 clear b21 n21 b22 c22 s21 s22 Wi n20 m22
 (repeat' (first|refine aa0 ?_|refine aa1 ?_|refine af ?_|refine ah ?_|refine aj ?_|refine ai ?_))
 refine eF (f:=vs) (y0:=([]:Nm)) (Pe:=NoB) (by rfl) rfl rfl (by omega) (by omega) (by omega) fun vH w23 oH nH=>?_
 replace nn:=New.trans nn nH
 replace hT:=hT.keep nO nH.keep
 replace bA:=bA.chg nH fun e=>e
 replace bAR:=bAR.new nH
 have hH:RdS (Wk.one vs) 1 (fun _=>True) w23 vH (List.replicate 512 []):=(oH.rd (nD _)).mono (nD _) fun _ _ _=>trivial
 obtain ⟨aH,cH,rfl,_,_⟩:=hH.form
 clear oH nH
 skip
 refine bZ (ps:=[(0,.tmp 69),(3,.tmp 70)]) (parts:=[(0,.slice a7 1 c7),(3,.slice aH _ cH)]) rfl rfl (by simp [Value.cells]) ?_
 refine ay (sS (show RdG (fun _=>True) w23 ⟨rT,[],[],List.replicate 512 []⟩ _ _ _ _ from ⟨hT,bP,bP,hH⟩) (JG (by simp) XD)) rfl ?_
 rintro _ w24 ⟨hr,n24⟩
 unfold sH at hr
 rw [if_pos (D8 [] (List.replicate 512 []) (by simp) (by rw [List.length_replicate];decide))] at hr
 obtain ⟨ra,rb,rc,rd,rfl,Zl⟩:=hr
 obtain ⟨⟨aea,aeb,rfl⟩,⟨aec,aed,rfl⟩,⟨aee,aef,rfl⟩,⟨aeg,aeh,rfl⟩⟩:=Zl.form
 (repeat' (first|refine aa0 ?_|refine aa8 ?_))
 refine Wl.alloc fun w25 b25 n25 s25=>?_
 refine aX (new:=[.slice aea _ aeb,.slice aec _ aed,.slice aee _ aef,.slice aeg _ aeh]) b25 rfl rfl rfl rfl (show (4:Nat)≤4 from Nat.le_refl 4) sl4 fun w26 b26 c26 s26=>?_
 have Wj:New w24 w26:=(Chg.trans n25.any c26 fun _ _ e=>e).toNew fun k hk e=>by omega
 have m26:=New.trans n24 Wj
 replace nn:=New.trans nn m26
 replace hT:=hT.keep nO m26.keep
 replace bA:=bA.chg m26 fun e=>e
 replace bAR:=bAR.new m26
 clear Zl
 clear b25 n25 b26 c26 s25 s26 Wj n24 m26
 (repeat' (first|refine aa0 ?_|refine aa1 ?_|refine af ?_|refine ah ?_|refine aj ?_|refine ai ?_))
 refine dB (R:=Wk.one vs) (Pe:=NoB) (y:=[47]) qR rfl rfl rfl rfl (by omega) (by omega) fun vI w27 oI nI sI eI=>?_
 replace nn:=New.trans nn nI
 replace hT:=hT.keep nO nI.keep
 replace bA:=bA.chg nI fun e=>e
 replace bAR:=bAR.new nI
 have hI:RdS (Wk.one vs) 1 (fun _=>True) w27 vI [[47]]:=(oI.rd (nD _)).mono (nD _) fun _ _ _=>trivial
 obtain ⟨aI,cI,rfl,_,_⟩:=hI.form
 clear oI nI sI eI
 skip
 refine bZ (ps:=[(0,.tmp 76),(3,.tmp 77)]) (parts:=[(0,.slice a7 1 c7),(3,.slice aI _ cI)]) rfl rfl (by simp [Value.cells]) ?_
 refine ay (sS (show RdG (fun _=>True) w27 (rG [[47]]) _ _ _ _ from ⟨hT,bP,bP,hI⟩) (JG (by simp) (by simp))) rfl ?_
 rintro _ w28 ⟨hr,n28⟩
 unfold sH at hr
 rw [if_pos (D8 [] [[47]] (by simp) (by simp))] at hr
 obtain ⟨ra,rb,rc,rd,rfl,XE⟩:=hr
 obtain ⟨⟨VK,VL,rfl⟩,⟨aei,aej,rfl⟩,⟨aek,ael,rfl⟩,⟨aem,aen,rfl⟩⟩:=XE.form
 (repeat' (first|refine aa0 ?_|refine aa8 ?_))
 refine Wl.alloc fun w29 b29 n29 s29=>?_
 refine aX (new:=[.slice VK _ VL,.slice aei _ aej,.slice aek _ ael,.slice aem _ aen]) b29 rfl rfl rfl rfl (show (4:Nat)≤4 from Nat.le_refl 4) sl4 fun w30 b30 c30 s30=>?_
 have UH:New w28 w30:=(Chg.trans n29.any c30 fun _ _ e=>e).toNew fun k hk e=>by omega
 have m30:=New.trans n28 UH
 replace nn:=New.trans nn m30
 replace hT:=hT.keep nO m30.keep
 replace bA:=bA.chg m30 fun e=>e
 replace bAR:=bAR.new m30
 have bS:=b30
 have bSR:=XE.new UH
 clear XE
 clear b29 n29 b30 c30 s29 s30 UH n28 m30
 (repeat' (first|refine aa0 ?_|refine aa1 ?_|refine af ?_|refine ah ?_|refine aj ?_|refine ai ?_))
 refine bZ (ps:=[(0,.tmp 83)]) (parts:=[(0,.slice a7 1 c7)]) rfl rfl (by simp [Value.cells]) ?_
 refine ay (L6 (g:=rG []) (i:=1) (show RdG (fun _=>True) w30 (rG []) _ _ _ _ from ⟨hT,bP,bP,bP⟩) (JG (by simp) (by simp)) (D8 [] [] (by simp) (by simp)) (Nat.le_refl 1)) rfl ?_
 rintro _ w31 ⟨rfl,nJ⟩
 replace nn:=New.trans nn nJ
 replace hT:=hT.keep nO nJ.keep
 replace bA:=bA.chg nJ fun e=>e
 replace bAR:=bAR.new nJ
 replace bS:=bS.chg nJ fun e=>e
 replace bSR:=bSR.new nJ
 clear nJ
 (repeat' (first|refine aa0 ?_|refine aa1 ?_|refine af ?_|refine aa8 ?_|refine ah ?_|refine aj ?_|refine ai ?_))
 refine bZ (ps:=[(0,.tmp 89)]) (parts:=[(0,.slice a7 1 c7)]) rfl rfl (by simp [Value.cells]) ?_
 refine ay (JE (g:=rG []) (i:= -1) (show RdG (fun _=>True) w31 (rG []) _ _ _ _ from ⟨hT,bP,bP,bP⟩) (JG (by simp) (by simp))) rfl ?_
 rintro _ w32 ⟨hb,nK⟩
 unfold uM at hb
 rw [if_neg (fun e=>e (D8 [] [] (by simp) (by simp))),if_pos (.inl (by decide))] at hb
 subst hb
 replace nn:=New.trans nn nK
 replace hT:=hT.keep nO nK.keep
 replace bA:=bA.chg nK fun e=>e
 replace bAR:=bAR.new nK
 replace bS:=bS.chg nK fun e=>e
 replace bSR:=bSR.new nK
 clear nK
 have hrl:(wO (rG [])).length=1:=yw _
 have hrs:(wO (rG [[47]])).length=1:=yw _
 have hbA:=bA.lt
 have hw0:=nn.size
 have hbS:=bS.lt
 have rA:=(bAR.rows.rd (nP _)).mono (Pb':=fun b=>b<w32.heap.size) (nP _) fun b hb _=>hb
 have rS:=(bSR.rows.rd (nP _)).mono (Pb':=fun b=>b<w32.heap.size) (nP _) fun b hb _=>hb
 clear bAR bSR
 (repeat' (first|refine aa0 ?_|refine aa1 ?_|refine af ?_|refine aa8 ?_|refine ah ?_|refine aj ?_|refine ai ?_))
 refine bZ (ps:=[(0,.tmp 95)]) (parts:=[(0,.slice a7 1 c7)]) rfl rfl (by simp [Value.cells]) ?_
 refine ay (Gw (G:=rG []) (show RdG (fun _=>True) w32 (rG []) _ _ _ _ from ⟨hT,bP,bP,bP⟩) (by simp) (by simp)) rfl ?_
 rintro _ w33 ⟨hN,nL⟩
 rw [if_pos (D8 [] [] (by simp) (by simp))] at hN
 obtain ⟨bw,bm,N,fl,nv,ov,rfl,gW,hNl,hNb,hNs,_⟩:=hN
 replace hNl:N.length=1:=hNl
 have hlo: ∀k,nv.ownBlock=some k→w32.heap.size≤k:=fun k hk=>(gW.nd.row.lt hk).1
 clear hT
 replace nn:=New.trans nn nL
 replace bA:=bA.chg nL fun e=>e
 replace bS:=bS.chg nL fun e=>e
 have hzz:w32.heap.size≤w33.heap.size:=nL.size
 replace rA:=rA.keep (nU _) nL.keep
 replace rS:=rS.keep (nU _) nL.keep
 clear nL
 (repeat' (first|refine aa0 ?_|refine aa1 ?_|refine af ?_|refine aa8 ?_|refine ah ?_|refine aj ?_|refine ai ?_))
 refine ay (VJ (i:=1) gW (by omega)) rfl ?_
 rintro _ w34 ⟨rfl,nM⟩
 replace nn:=New.trans nn nM
 replace bA:=bA.chg nM fun e=>e
 replace bS:=bS.chg nM fun e=>e
 replace gW:=gW.new nM
 replace hzz:w32.heap.size≤w34.heap.size:=Nat.le_trans hzz nM.size
 replace rA:=rA.keep (nU _) nM.keep
 replace rS:=rS.keep (nU _) nM.keep
 clear nM
 (repeat' (first|refine aa0 ?_|refine aa8 ?_))
 refine Wl.alloc fun w35 bR nR sR=>?_
 refine aX (new:=row0) bR rfl rfl rfl rfl (show (3:Nat)≤3 from Nat.le_refl 3) PI fun w36 bR2 cR sR2=>?_
 have nR2:New w34 w36:=(Chg.trans nR.any cR fun _ _ e=>e).toNew fun k hk e=>by omega
 clear bR nR bR2 cR sR sR2
 replace nn:=New.trans nn nR2
 replace bA:=bA.chg nR2 fun e=>e
 replace bS:=bS.chg nR2 fun e=>e
 replace gW:=gW.new nR2
 replace hzz:w32.heap.size≤w36.heap.size:=Nat.le_trans hzz nR2.size
 replace rA:=rA.keep (nU _) nR2.keep
 replace rS:=rS.keep (nU _) nR2.keep
 clear nR2
 (repeat' (first|refine aa0 ?_|refine aa1 ?_|refine af ?_|refine ah ?_|refine aj ?_|refine ai ?_))
 refine ay (Uf (i:=0) gW (by omega) (by rw [hNs];omega)) rfl ?_
 rintro _ w37 ⟨N',rfl,g2,_,_,hs2,c2⟩
 rw [hNb] at hs2 ⊢
 rw [hs2]
 have hr0:=Zk (fl:=flF fl) (S:=stF N) (hNs 0)
 generalize rowOf (nX (rG [])) ((qE (nX (rG [])) (flF fl) (stF N) 0).getD (stF N)) 0=xr at*
 obtain ⟨x1,x2,x3⟩:=xr
 dsimp only at hr0
 subst hr0
 have bA2:=bA.chg c2 fun e=>by have:=hlo _ e;omega
 have bS2:=bS.chg c2 fun e=>by have:=hlo _ e;omega
 have rA2:=rA.keep (nU _) (c2.keep fun b _ (hb:b<w32.heap.size) e=>by have:=hlo _ e;omega)
 have rS2:=rS.keep (nU _) (c2.keep fun b _ (hb:b<w32.heap.size) e=>by have:=hlo _ e;omega)
 have nn2:New w w37:=(Chg.trans (M:=fun k=>w32.heap.size≤k) nn.any c2 fun k _ e=>hlo k e).toNew fun k hk e=>by omega
 clear rA rS bA bS nn gW g2 c2 hs2
 (repeat' (first|refine aa0 ?_|refine aa8 ?_))
 refine Wl.alloc fun w38 bR nR sR=>?_
 refine aX (new:=rwC (0,x2,x3)) bR rfl rfl rfl rfl (show (3:Nat)≤3 from Nat.le_refl 3) (by intro c hc;simp at hc;rcases hc with rfl|rfl|rfl<;>rfl) fun w39 bT cR sR2=>?_
 have nR2:New w37 w39:=(Chg.trans nR.any cR fun _ _ e=>e).toNew fun k hk e=>by omega
 clear bR nR cR sR sR2
 replace bA2:=bA2.chg nR2 fun e=>e
 replace bS2:=bS2.chg nR2 fun e=>e
 replace rA2:=rA2.keep (nU _) nR2.keep
 replace rS2:=rS2.keep (nU _) nR2.keep
 replace nn2:=New.trans nn2 nR2
 have g1:=vY (g:=rG []) (i:=0) (Nat.lt_succ_self 0)
 have g3:=vY (g:=rG [[47]]) (i:=0) (Nat.lt_succ_self 0)
 rw [XB] at g3
 (repeat' (first|refine aa0 ?_|refine aa1 ?_|refine af ?_|refine aa6 ?_|refine ah ?_|refine aj ?_|refine ai ?_|(refine bV rfl rfl (fun _=>?_) (fun _=>?_)<;>(first|(exfalso;omega)|skip))))
 refine ay Rj rfl ?_
 rintro _ w50 ⟨rfl,n50⟩
 (repeat' (first|refine aa0 ?_|refine aa6 ?_|refine aO rfl ?_))
 refine ay UF rfl ?_
 rintro _ w51 ⟨rfl,n51⟩
 have Rk:=New.trans n50 n51
 replace bA2:=bA2.chg Rk fun e=>e
 replace bS2:=bS2.chg Rk fun e=>e
 replace bT:=bT.chg Rk fun e=>e
 replace rA2:=rA2.keep (nU _) Rk.keep
 replace rS2:=rS2.keep (nU _) Rk.keep
 replace nn2:=New.trans nn2 Rk
 (repeat' (first|refine aa0 ?_|refine aa6 ?_|refine pG ?_|refine aO rfl ?_|refine aa5 ?_|refine aa7 ?_|(refine bV rfl rfl (fun _=>?_) (fun _=>?_)<;>(first|(exfalso;omega)|skip))))
 refine au (u:=.slice p81 _ q81) rfl (bA2.cell (o:=0) rfl) ?_
 (repeat' (first|refine aa0 ?_|refine aa6 ?_|refine pG ?_|refine aO rfl ?_|refine aa5 ?_|(refine bV rfl rfl (fun _=>?_) (fun _=>?_)<;>(first|(exfalso;omega)|skip))))
 refine au (u:=.slice p81 _ q81) rfl (bA2.cell (o:=0) rfl) ?_
 (repeat' (refine aa6 ?_))
 refine bD rA2 rfl rfl (by omega) g1 fun b o cs hl hR hat=>?_
 obtain rfl:cs=rwC _:=hR
 (repeat' (first|refine aa6 ?_|refine aa5 ?_))
 refine au (u:=.int .u8 (0:Nat)) rfl (by have h9:=hat.get (u:=.int .u8 (rowOf (nX (rG [])) (wM (rG [])).2 0).1) 0 rfl;rw [Zj] at h9;exact h9) ?_
 clear hat
 (repeat' (first|refine aa0 ?_|refine aa6 ?_|refine pG ?_|refine aa5 ?_|(refine bV rfl rfl (fun _=>?_) (fun _=>?_)<;>(first|(exfalso;omega)|skip))))
 refine au (u:=.slice VK _ VL) rfl (bS2.cell (o:=0) rfl) ?_
 (repeat' (first|refine aa0 ?_|refine aa6 ?_|refine pG ?_|refine aO rfl ?_|refine aa5 ?_|(refine bV rfl rfl (fun _=>?_) (fun _=>?_)<;>(first|(exfalso;omega)|skip))))
 refine au (u:=.slice VK _ VL) rfl (bS2.cell (o:=0) rfl) ?_
 (repeat' (refine aa6 ?_))
 refine bD rS2 rfl rfl (by omega) g3 fun b o cs hl hR hat=>?_
 obtain rfl:cs=rwC _:=hR
 (repeat' (first|refine aa6 ?_|refine aa5 ?_))
 refine au (u:=.int .u8 (6:Nat)) rfl (hat.get 0 rfl) ?_
 clear hat
 (repeat' (first|refine aa0 ?_|refine aa6 ?_|refine pG ?_|refine aa5 ?_|(refine bV rfl rfl (fun _=>?_) (fun _=>?_)<;>(first|(exfalso;omega)|skip))))
 refine au (u:=.slice VK _ VL) rfl (bS2.cell (o:=0) rfl) ?_
 (repeat' (refine aa6 ?_))
 refine bD rS2 rfl rfl (by omega) g3 fun b o cs hl hR hat=>?_
 obtain rfl:cs=rwC _:=hR
 (repeat' (first|refine aa6 ?_|refine aa5 ?_))
 refine au (u:=vi (0:Nat)) rfl (hat.get 2 rfl) ?_
 clear hat
 (repeat' (first|refine aa0 ?_|refine aa6 ?_|refine pG ?_|refine aa5 ?_|(refine bV rfl rfl (fun _=>?_) (fun _=>?_)<;>(first|(exfalso;omega)|skip))))
 refine au (u:=.int .u8 (0:Nat)) rfl (bT.cell (o:=0) rfl) ?_
 (repeat' (first|refine aa0 ?_|refine aa6 ?_|refine pG ?_|(refine bV rfl rfl (fun _=>?_) (fun _=>?_)<;>(first|(exfalso;omega)|skip))))
 refine ay Ot rfl ?_
 rintro _ w60 ⟨rfl,n60⟩
 (repeat' (first|refine aa1 ?_|refine af ?_|refine pG ?_|refine ah ?_|refine ax ?_))
 exact aA rfl rfl ⟨_,rfl,rfl,New.trans nn2 n60⟩
end Go.Proofs.YtjecgaiaiophpaaGreatDoor
namespace Go.Proofs.YtjecgaiaiophpaaGreatDoor
open Go Wk
end Go.Proofs.YtjecgaiaiophpaaGreatDoor
namespace Go.Proofs.YtjecgaiaiophpaaGreatDoor
open Go Wk Go.ChangeShapes
end Go.Proofs.YtjecgaiaiophpaaGreatDoor
namespace Go.Proofs.YtjecgaiaiophpaaGreatDoor
open Go
theorem tt {a b:Bool} (ha:a=true) (hb:b=true):(a&&b)=true:=by rw [ha,hb];rfl
theorem Rl {P:Program} {f:FuncId} {fn:Func} {s:ChangeSpec} {c:OpenClaim}
 (h1:c.wf (OpenSpec.ofChange s)=true) (h2:laidOutB P=true) (h3:mapsRowed P=true) (h4:fn.params.all (P.readableRec ·)=true) (h5:namedTie P c.named s.vars=true)
 (h6:(c.stops == [])=true) (h7:(P.stops == [])=true) (h8:(c.knobs == [])=true) (h9:(P.stopKnobs == [])=true)
 (h10:(c.inPlace == P.inPlace f)=true) (h11:(c.unfollowed == P.unfollowed f)=true) (h12:(c.recurses == P.recurses f)=true) (h13:(c.named == P.varsNamed f)=true)
 (h14:(c.maps == (fn.params.toList++s.plain.varTypes P).any (P.mapsRec ·))=true) (h15:(c.ifaces == (fn.params.toList++s.plain.varTypes P).any (P.ifacesRec ·))=true) (h16:(c.mapsOut == P.mapsAmong fn.resultTypes.toList)=true)
 (h17:(c.loops == (fn.params.toList++s.plain.varTypes P).any (P.loopsFrom ·))=true) (h18:(c.wideKeys == (fn.params.toList++s.plain.varTypes P++fn.resultTypes.toList).any (P.wideKeysFrom ·))=true)
 (h19:s.vars.all (P.varReadable ·)=true) (h20:fn.resultTypes.all (fun t=>P.readableRec t&&decide (t<P.types.size))=true) (h21:(c.ifacesOut == fn.resultTypes.toList.any (P.ifacesRec ·))=true) (h22:(c.loopsOut == fn.resultTypes.toList.any (P.loopsFrom ·))=true)
 (h23:(c.plainKeys == P.plainKeys)=true) (h24:c.shortTexts.isNone=true) (h25:P.stopsHeard=true) (h26:P.mayEnter=true) (h27:(c.lifted == P.liftsFinal)=true) (h28:(P.make == some c.make)=true)
 (h29:(c.kinds == (if c.domain.isEmpty then [] else fn.params.toList.map fun t=>match P.underlying t with|some (.int k)=>some k|_=>none))=true) (h30:(c.pinned == c.pinnedBy)=true)
 (h31:(c.veiled == (fn.params.toList++s.plain.varTypes P++fn.resultTypes.toList).any (P.veiledRec ·))=true) (h32:c.veiledFits P fn.params.toList (fn.params.toList++s.plain.varTypes P++fn.resultTypes.toList)=true):joinedFacts P f fn s c=true:=by
 unfold joinedFacts
 exact tt (tt (tt (tt (tt (tt (tt (tt (tt (tt (tt (tt (tt (tt (tt (tt (tt (tt (tt (tt (tt (tt (tt (tt (tt (tt (tt (tt (tt (tt (tt h1 h2) h3) h4) h5) h6) h7) h8) h9) h10) h11) h12) h13) h14) h15) h16) h17) h18) h19) h20) h21) h22) h23) h24) h25) h26) h27) h28) h29) h30) h31) h32
theorem Zm:mapsRowed Tryz.prog=true:=by kernel_rfl
theorem Zo:laidOutB Tryz.prog=true:=by kernel_rfl
theorem aeo:Tryz.prog.mayEnter=true:=by kernel_rfl
theorem XF:Tryz.prog.stopsHeard=true:=by kernel_rfl
end Go.Proofs.YtjecgaiaiophpaaGreatDoor
