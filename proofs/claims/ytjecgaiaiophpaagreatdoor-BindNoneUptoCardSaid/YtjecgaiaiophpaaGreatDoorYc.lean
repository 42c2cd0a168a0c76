/-
  Texts of this claim, one behind the other: D1, C2, C3, BL, C4, Hk, SrksortC, Sc, C5, Qp, D2, S1, S2, S3, S4, S5, S6, S7, Lez, BG, C6, S8.
-/
import Derived.Test.YtjecgaiaiophpaaGreatDoorYb
import Derived.Laws.StructEq
import Derived.ChangeKeysEq
import Derived.Shelf.GgSortFunc.RowK
import Derived.Shelf.SlSortCmp.NoneTotal
import Derived.Ground.SlsfProg
import Derived.Test.YtjecgaiaiophpaaGreatDoorProg
set_option linter.all false
set_option maxHeartbeats 16000000
set_option maxRecDepth 8000
namespace Go.Proofs.YtjecgaiaiophpaaGreatDoor
open Go Wk
open Go.RowKit (Below)
attribute [local irreducible] Go.Calls
theorem CU: ∀(l:List Nd) (m:List (Nat×Nat)) (i:Nat),(m.map (·.1)).Nodup→((vk m i l).map (·.1)).Nodup
 | [],m,_,h=>h
 |x::r,m,i,h=>by
  rw [vk]
  refine CU r _ (i+1) ?_
  split
  ·rename_i hc
   rw [List.map_append,List.nodup_append]
   refine ⟨h,by simp,fun a ha b hb=>?_⟩
   simp at hb
   subst hb
   obtain ⟨p,hp,rfl⟩:=List.mem_map.1 ha
   have:=List.all_eq_true.1 hc.2 p hp
   simpa using this
  ·exact h
theorem zU (t:List Nd):((qM t).map (·.1)).Nodup:=CU t [] 0 (by simp)
abbrev zV (m:List (Nat×Nat)):List (Value×Value):=m.map fun p=>(.int .u32 p.1,vi p.2)
theorem CV: ∀ {m:List (Nat×Nat)} {h k:Nat},(m.map (·.1)).Nodup→(h,k)∈m→m.find? (fun p=>decide (p.1=h))=some (h,k)
 | [],h,k,_,hm=>by simp at hm
 |p::r,h,k,hn,hm=>by
  rw [List.map_cons,List.nodup_cons] at hn
  rcases List.mem_cons.1 hm with rfl|hm
  ·rw [List.find?_cons_of_pos (by simp)]
  ·rw [List.find?_cons_of_neg,CV hn.2 hm]
   intro e
   rw [decide_eq_true_eq] at e
   exact hn.1 (List.mem_map.2 ⟨(h,k),hm,e.symm⟩)
theorem U4 {t:List Nd} {h:Nat} {r:Value} (e:((.int .u32 h:Value),r)∈zV (qM t)): ∃k:Nat,r=vi k∧zK t h=some k:=by
 obtain ⟨⟨a,b⟩,hm,e⟩:=List.mem_map.1 e
 simp only [Prod.mk.injEq,Value.int.injEq,true_and] at e
 obtain ⟨e1,rfl⟩:=e
 obtain rfl:a=h:=by omega
 refine ⟨b,rfl,?_⟩
 unfold zK
 rw [CV (zU t) hm];rfl
theorem SS {t:List Nd} {h:Nat} (e: ∀p∈zV (qM t),p.1≠ .int .u32 h):zK t h=none:=by
 unfold zK
 rw [Option.map_eq_none_iff,List.find?_eq_none]
 intro p hp
 have:=e _ (List.mem_map.2 ⟨p,hp,rfl⟩)
 simp only [ne_eq,Value.int.injEq,true_and] at this
 simp only [decide_eq_true_eq]
 omega
theorem SX {m:List (Nat×Nat)} (hn:(m.map (·.1)).Nodup) {key r r':Value} (h1:(key,r)∈zV m) (h2:(key,r')∈zV m):r=r':=by
 obtain ⟨⟨a,b⟩,hm,e⟩:=List.mem_map.1 h1
 obtain ⟨⟨c,d⟩,hm2,e2⟩:=List.mem_map.1 h2
 simp only [Prod.mk.injEq] at e e2
 obtain ⟨rfl,rfl⟩:=e
 obtain ⟨e3,rfl⟩:=e2
 simp only [Value.int.injEq,true_and] at e3
 obtain rfl:c=a:=by omega
 have f1:=CV hn hm
 have f2:=CV hn hm2
 rw [f1] at f2
 cases f2
 rfl
theorem kU:Maps.Keyed Tryz.prog 166:=Maps.int_keyed Tryz.underlying166
theorem WR {i:Nat} (h:i<4294967296):keyOf Tryz.prog 166 (.int .u32 i)=some (.int .u32 i):=
 Maps.keyOf_int_mk Tryz.underlying166 (by simp [Lit.wf,IntKind.min,IntKind.max,IntKind.signed,IntKind.bits];omega)
def edC (e:Ed) (v:Value):List Value:=[vi e.src,vi (qw e.dst),.int .u8 e.kind,.bool e.soft,vi e.place,v]
def rEd:Rel Ed:=fun Pb w e cs=> ∃v,cs=edC e v∧RdS (Wk.one yQ) 1 Pb w v e.args
theorem rP:Stable rEd:=fun _ _ _ _ _ hk ⟨v,e,h⟩=>⟨v,e,h.keep (nT _) hk⟩
theorem qB:AY rEd:=fun _ _ _ _ _ hP ⟨v,e,h⟩=>⟨v,e,h.mono (nD _) hP⟩
theorem Qo {e:Ed} {a:Option Addr} {l c:Nat}: ∀x∈edC e (.slice a l c),x.oneCell'=true:=fun x hx=>by
 simp [edC] at hx
 rcases hx with rfl|rfl|rfl|rfl|rfl|rfl<;>rfl
theorem pW:qG rEd 6:=⟨rP,qB,fun Pb w x cs ⟨v,e,h⟩ _ c hc=>by
 subst e
 obtain ⟨a,cap,rfl,_⟩:=h.form
 exact Qo c hc⟩
theorem KE {Pb:Nat→Prop} {w:World} {v:Value} {l:List Int} (h:RdS (Wk.one yQ) 1 Pb w v l) (hl:l.length≤2000000):
 Calls Tryz.prog 223 #[v] w (Ret fun r w'=>ny (Wk.one yQ) 166 1 (fun b=>w.heap.size≤b) NoB w' r l∧New w w'):=by
 obtain ⟨a,cap,rfl,hc1,hc2⟩:=h.form
 refine mQ Tryz.func223 rfl Tryz.ntmps223 rfl ?_
 (repeat' (first|refine aa0 ?_|refine aa1 ?_|refine af ?_|refine ah ?_|refine aj ?_|refine ai ?_))
 refine iw rfl rfl ?_
 cases a with
 |none=>
  have e:l=[]:=by
   rcases h with ⟨_,rfl⟩|⟨_,_,e,_⟩|⟨_,_,_,_,_,_,e,_⟩
   ·rfl
   ·cases e
   ·cases e
  subst e
  (repeat' (first|refine aa1 ?_|refine af ?_|refine ah ?_|refine aj ?_|refine ai ?_|refine ax ?_|refine aN ?_|refine aa3 ?_))
  exact aA rfl rfl ⟨_,rfl,bK,aV _ _⟩
 |some a=>
  (repeat' (first|refine af ?_|refine ah ?_|refine aj ?_|refine ai ?_|refine Wc.skip ?_|refine aa4 ?_))
  refine iO (R:=Wk.one yQ) (Pe:=NoB) fun v1 w1 o1 n1=>?_
  (repeat' (refine aa0 ?_))
  refine dH Dv o1 (h.keep (nT _) n1.keep) (fun y cs hy=>hy) rfl rfl (by omega) (by simp only [maxLen,List.length_nil];omega) (by simp only [List.length_nil];omega) fun v2 w2 o2 c2 lie _=>?_
  (repeat' (first|refine aa1 ?_|refine af ?_|refine ah ?_|refine ax ?_))
  refine aA rfl rfl ⟨_,rfl,?_,Chg.trans n1 c2 fun k hk e=>by have:=(o1.lt e).1;omega⟩
  have hs:=n1.size
  exact o2.mono (nD _) (fun b _ hb=>by rcases hb with hb|hb;exact hb;omega) (fun _ _ e=>e)
theorem KF {Pb:Nat→Prop} {w:World} {v:Value} {l:List Nat} (h:RdS (Wk.one viN) 1 Pb w v l) (hl:l.length≤2000000):
 Calls Tryz.prog 240 #[v] w (Ret fun r w'=>ny (Wk.one viN) 3 1 (fun b=>w.heap.size≤b) NoB w' r l∧New w w'):=by
 obtain ⟨a,cap,rfl,hc1,hc2⟩:=h.form
 refine mQ Tryz.func240 rfl Tryz.ntmps240 rfl ?_
 (repeat' (first|refine aa0 ?_|refine aa1 ?_|refine af ?_|refine ah ?_|refine aj ?_|refine ai ?_))
 refine iw rfl rfl ?_
 cases a with
 |none=>
  have e:l=[]:=by
   rcases h with ⟨_,rfl⟩|⟨_,_,e,_⟩|⟨_,_,_,_,_,_,e,_⟩
   ·rfl
   ·cases e
   ·cases e
  subst e
  (repeat' (first|refine aa1 ?_|refine af ?_|refine ah ?_|refine aj ?_|refine ai ?_|refine ax ?_|refine aN ?_|refine aa3 ?_))
  exact aA rfl rfl ⟨_,rfl,bK,aV _ _⟩
 |some a=>
  (repeat' (first|refine af ?_|refine ah ?_|refine aj ?_|refine ai ?_|refine Wc.skip ?_|refine aa4 ?_))
  refine iO (R:=Wk.one viN) (Pe:=NoB) fun v1 w1 o1 n1=>?_
  (repeat' (refine aa0 ?_))
  refine dH qJ o1 (h.keep (nT _) n1.keep) (fun y cs hy=>hy) rfl rfl (by omega) (by simp only [maxLen,List.length_nil];omega) (by simp only [List.length_nil];omega) fun v2 w2 o2 c2 lie _=>?_
  (repeat' (first|refine aa1 ?_|refine af ?_|refine ah ?_|refine ax ?_))
  refine aA rfl rfl ⟨_,rfl,?_,Chg.trans n1 c2 fun k hk e=>by have:=(o1.lt e).1;omega⟩
  have hs:=n1.size
  exact o2.mono (nD _) (fun b _ hb=>by rcases hb with hb|hb;exact hb;omega) (fun _ _ e=>e)
abbrev kwC (k:Nat):List Value:=[vs (rM k).1,vs (rM k).2]
def wG:List Value:=[vs [],vs []]++kwC 1++kwC 2++kwC 3++kwC 4++kwC 5
theorem F6 {w:World}:(Instr.build 323 #[(1,.agg (kwC 1).toArray),(2,.agg (kwC 2).toArray),(3,.agg (kwC 3).toArray),(4,.agg (kwC 4).toArray),(5,.agg (kwC 5).toArray)]).run Tryz.prog w=.ok (.agg wG.toArray) w:=by
 kernel_rfl
theorem Qp {w:World}:(Instr.index 323 (.agg wG.toArray) (.int .u8 1)).run Tryz.prog w=.ok (.agg (kwC 1).toArray) w:=by kernel_rfl
theorem Qq {w:World}:(Instr.index 323 (.agg wG.toArray) (.int .u8 2)).run Tryz.prog w=.ok (.agg (kwC 2).toArray) w:=by kernel_rfl
theorem Qr {w:World}:(Instr.index 323 (.agg wG.toArray) (.int .u8 3)).run Tryz.prog w=.ok (.agg (kwC 3).toArray) w:=by kernel_rfl
theorem Qs {w:World}:(Instr.index 323 (.agg wG.toArray) (.int .u8 4)).run Tryz.prog w=.ok (.agg (kwC 4).toArray) w:=by kernel_rfl
theorem Qu {w:World}:(Instr.index 323 (.agg wG.toArray) (.int .u8 5)).run Tryz.prog w=.ok (.agg (kwC 5).toArray) w:=by kernel_rfl
theorem I7 {w:World} {k:Nat} (h1:1≤k) (h2:k≤5):(Instr.index 323 (.agg wG.toArray) (.int .u8 k)).run Tryz.prog w=.ok (.agg (kwC k).toArray) w:=by
 have:k=1∨k=2∨k=3∨k=4∨k=5:=by omega
 rcases this with rfl|rfl|rfl|rfl|rfl
 ·exact Qp
 ·exact Qq
 ·exact Qr
 ·exact Qs
 ·exact Qu
theorem Nl {w:World}:Calls Tryz.prog 221 #[] w (Ret fun r w'=>r=.agg wG.toArray∧New w w'):=by
 refine mQ Tryz.func221 rfl Tryz.ntmps221 rfl ?_
 (repeat' (first|refine aj ?_|refine ai ?_))
 refine Wl.alloc fun w1 b1 n1 s1=>?_
 (repeat' (first|refine af ?_|refine ah ?_|refine aj ?_|refine ai ?_))
 refine gq (cs:=kwC 1) (parts:=[(0,vs (rM 1).1),(1,vs (rM 1).2)]) rfl rfl (by simp [Value.cells]) rfl ?_
 refine gq (cs:=kwC 2) (parts:=[(0,vs (rM 2).1),(1,vs (rM 2).2)]) rfl rfl (by simp [Value.cells]) rfl ?_
 refine gq (cs:=kwC 3) (parts:=[(0,vs (rM 3).1),(1,vs (rM 3).2)]) rfl rfl (by simp [Value.cells]) rfl ?_
 refine gq (cs:=kwC 4) (parts:=[(0,vs (rM 4).1),(1,vs (rM 4).2)]) rfl rfl (by simp [Value.cells]) rfl ?_
 refine gq (cs:=kwC 5) (parts:=[(0,vs (rM 5).1),(1,vs (rM 5).2)]) rfl rfl (by simp [Value.cells]) rfl ?_
 refine fE (ps:=[(1,.tmp 1),(2,.tmp 2),(3,.tmp 3),(4,.tmp 4),(5,.tmp 5)]) (parts:=[(1,.agg (kwC 1).toArray),(2,.agg (kwC 2).toArray),(3,.agg (kwC 3).toArray),(4,.agg (kwC 4).toArray),(5,.agg (kwC 5).toArray)]) rfl F6 ?_
 refine aX (new:=wG) b1 rfl rfl rfl rfl (show (12:Nat)≤12 from Nat.le_refl 12) (by intro c hc;simp [wG,kwC] at hc;rcases hc with rfl|rfl|rfl|rfl|rfl|rfl|rfl|rfl|rfl|rfl|rfl<;>rfl) fun w2 b2 c2 s2=>?_
 replace b2:Bk w2 w.heap.size 323 wG:=b2
 have n2:New w w2:=(Chg.trans n1.any c2 fun _ _ e=>e).toNew fun k hk e=>by omega
 (repeat' (first|refine af ?_|refine ah ?_|refine ax ?_))
 exact jD (sz:=12) rfl rfl rfl b2 rfl rfl ⟨_,rfl,rfl,n2⟩
end Go.Proofs.YtjecgaiaiophpaaGreatDoor
namespace Go.Proofs.YtjecgaiaiophpaaGreatDoor
open Go Wk
open Go.RowKit (Below)
attribute [local irreducible] Go.Calls
abbrev Qv:=Nat×Nat×Nat
abbrev KG (x:Qv):List Value:=[w64 x.1,w64 x.2.1,w64 x.2.2]
theorem wZ:qG (flat KG) 3:=qH _ (fun _=>rfl) fun x c hc=>by simp at hc;rcases hc with rfl|rfl|rfl<;>rfl
def KH (w w':World) (r:Value) (o:Option (List Qv×Bool)):Prop:= ∃v b e,r=.tuple #[v,.bool b,vi e]∧match o with
 |none=>e≠0
 |some ms=>e=0∧b=ms.2∧RdS (flat KG) 3 (fun b=>w.heap.size≤b) w' v ms.1
def m3 (r:List Nat):Qv:=(r.getD 0 0,r.getD 1 0,r.getD 2 0)
def ok3 (r:List Nat):Bool:=fitsW (r.getD 0 0) (r.getD 2 0)&&fitsW (r.getD 1 0) (r.getD 2 0)
theorem KI (t:List Nd) (i:Nat):J4 t i=match sZ t i [114,97,110,103,101,115] with
 |none=>none
 |some text=>match vg (ndA t i).oJ,vg (ndA t (par t i)).oJ with
  |some (a,s),some (above,_)=>match xR [a,above,s] text with
   |none=>none
   |some rs=>if rs.all ok3=true then some (rs.map m3,decide (text=[])) else none
  |_,_=>none:=rfl
theorem SY (o:Option (Nat×Nat)):Yx o=.tuple #[vi ((o.getD (0,0)).1:Nat),vi ((o.getD (0,0)).2:Nat),vi (if o.isSome then 0 else 4)]:=by cases o<;>rfl
theorem Qw {Pb:Nat→Prop} {w:World} {v:Value} {l:List Nd} {i:Nat} (h:RdS rNd 3 Pb w v l) (hok:nV l=true) (h0:i≠0) (hi:i<l.length):
 Calls Tryz.prog 315 #[v,vi i] w (Ret fun r w'=>KH w w' r (J4 l i)∧New w w'):=by
 obtain ⟨a,cap,rfl,hc1,hc2⟩:=h.form
 have hlen:=oN hok
 have hp:=uo hok h0 hi
 have hx:=FX hi
 have hy:=FX (t:=l) (i:=par l i) (by omega)
 rw [KI]
 refine mQ Tryz.func315 rfl Tryz.ntmps315 rfl ?_
 (repeat' (first|refine aa0 ?_|refine aa1 ?_|refine af ?_|refine ah ?_|refine aj ?_|refine ai ?_))
 refine bD h rfl rfl (by omega) hx fun b o cs hl hR hat=>?_
 obtain ⟨pv,rfl,hpv⟩:=hR
 refine bQ hat rfl rfl ?_
 clear hat
 refine ay (zM (x:=ndA l i) (nm:=[114,97,110,103,101,115]) hpv) rfl ?_
 rintro _ w1 ⟨rfl,n1⟩
 rw [show val (ndA l i).oJ [114,97,110,103,101,115]=sZ l i [114,97,110,103,101,115] from rfl]
 cases htx:sZ l i [114,97,110,103,101,115] with
 |none=>
  dsimp only [IW]
  (repeat' (first|refine aa0 ?_|refine aa1 ?_|refine af ?_|refine aa8 ?_|refine aZ rfl ?_|refine ah ?_|refine aj ?_|refine ai ?_|refine ax ?_|refine aN ?_|refine aa3 ?_))
  exact dA rfl rfl rfl rfl ⟨_,rfl,⟨_,_,_,rfl,ne6⟩,n1⟩
 |some txt=>
  have htl:=yT hok hi htx
  dsimp only [IW]
  (repeat' (first|refine aa0 ?_|refine aa1 ?_|refine af ?_|refine aa8 ?_|refine aZ rfl ?_|refine ah ?_|refine aj ?_|refine ai ?_|refine Wc.skip ?_|refine aa4 ?_))
  refine bD (h.keep nO n1.keep) rfl rfl (by omega) hx fun b o cs hl hR hat=>?_
  obtain ⟨pv1,rfl,hpv1⟩:=hR
  refine bQ hat rfl rfl ?_
  clear hat
  refine ay (Bo (x:=ndA l i) hpv1 (CS hok hi)) rfl ?_
  rintro _ w2 ⟨rfl,n2⟩
  have n02:=New.trans n1 n2
  rw [SY]
  (repeat' (first|refine aa0 ?_|refine aa1 ?_|refine af ?_|refine aa8 ?_|refine ah ?_|refine aj ?_|refine ai ?_))
  refine bD (h.keep nO n02.keep) rfl rfl (by omega) hx fun b o cs hl hR hat=>?_
  obtain ⟨pv2,rfl,hpv2⟩:=hR
  (repeat' (refine aa5 ?_))
  refine au (u:=vi (ndA l i).parent) rfl (hat.get 0 rfl) ?_
  clear hat
  refine bD (h.keep nO n02.keep) rfl rfl (by omega) (by rw [hp.2,Int.toNat_natCast];exact hy) fun b o cs hl hR hat=>?_
  obtain ⟨pv3,rfl,WQ⟩:=hR
  refine bQ hat rfl rfl ?_
  clear hat
  refine ay (Bo (x:=ndA l (par l i)) WQ (CS hok (by omega))) rfl ?_
  rintro _ w3 ⟨rfl,n3⟩
  have n03:=New.trans n02 n3
  rw [SY]
  cases hs1:vg (ndA l i).oJ with
  |none=>
   dsimp only [Option.isSome]
   (repeat' (first|refine aa0 ?_|refine aa1 ?_|refine af ?_|refine aa8 ?_|refine qi ?_|refine pG ?_|refine ah ?_|refine aj ?_|refine ai ?_|refine ax ?_|refine aN ?_|refine aa3 ?_|(refine pV (fun _=>?_) (fun _=>?_)<;>(first|(exfalso;contradiction)|skip))))
   exact dA rfl rfl rfl rfl ⟨_,rfl,⟨_,_,_,rfl,ne4⟩,n03⟩
  |some q1=>
   cases hs2:vg (ndA l (par l i)).oJ with
   |none=>
    dsimp only [Option.isSome]
    (repeat' (first|refine aa0 ?_|refine aa1 ?_|refine af ?_|refine aa8 ?_|refine aa6 ?_|refine pq ?_|refine ah ?_|refine aj ?_|refine ai ?_|refine ax ?_|refine aN ?_|refine aa3 ?_|(refine pV (fun _=>?_) (fun _=>?_)<;>(first|(exfalso;contradiction)|skip))))
    exact dA rfl rfl rfl rfl ⟨_,rfl,⟨_,_,_,rfl,ne4⟩,n03⟩
   |some q2=>
    obtain ⟨sa,ss⟩:=q1
    obtain ⟨sab,ss2⟩:=q2
    have hsl:=vX hs1
    have hsl2:=vX hs2
    dsimp only [Option.isSome,Option.getD]
    (repeat' (first|refine aa0 ?_|refine aa1 ?_|refine af ?_|refine aa8 ?_|refine aa6 ?_|refine pq ?_|refine ah ?_|refine aj ?_|refine ai ?_|refine Wc.skip ?_|refine aa4 ?_|(refine pV (fun _=>?_) (fun _=>?_)<;>(first|(exfalso;omega)|(exfalso;contradiction)|skip))))
    refine jF (f:=viN) (us:=[sa,sab,ss]) (fun _=>rfl) rfl rfl (by simp) (by simp) fun vw w4 ow n4=>?_
    have n04:=New.trans n03 n4
    skip
    have WS: ∀x∈ [sa,sab,ss],x≤2:=by intro x hx;simp at hx;omega
    refine ay (H8 (s:=txt) (ow.rd (nD _)) htl WS (by simp;omega) (by simp)) rfl ?_
    rintro _ w5 ⟨hrp,n5⟩
    obtain ⟨vr,e,rs,rfl,hrs,hcase⟩:=FY hrp
    have n05:=New.trans n04 n5
    obtain ⟨ra,rc,rfl,_,_⟩:=hrs.form
    replace hrs:=hrs.mono (Pb':=fun b=>b<w5.heap.size) wX fun b hb _=>hb
    have hlt: ∀r∈rs,(r.length=3∧ ∀x∈r,x<18446744073709551616):=by
     rcases hcase with ⟨h1,_⟩|⟨_,rfl,_⟩
     ·exact (xZ WS h1).1
     ·intro r hr;simp at hr
    have hrl:rs.length≤1024:=by
     rcases hcase with ⟨h1,_⟩|⟨_,rfl,_⟩
     ·have:=(xZ WS h1).2;omega
     ·simp
    (repeat' (first|refine aa0 ?_|refine aa1 ?_|refine af ?_|refine aa8 ?_|refine aO rfl ?_|refine ah ?_|refine aj ?_|refine ai ?_|refine Wc.block ?_))
    refine aU (σ:=Nat×Value) (fun q=>[(7,vs txt),(11,vi e),(16,q.2),(66,.slice ra rs.length rc),(67,vi rs.length),(68,vi q.1)])
     (fun q W=>q.1≤rs.length∧(∀r∈rs.take q.1,ok3 r=true)∧ny (flat KG) 404 3 (fun b=>w5.heap.size≤b) NoB W q.2 ((rs.take q.1).map m3)∧New w5 W) (fun q=>rs.length-q.1) (0,.slice none 0 0) ⟨rfl,rfl,rfl,rfl,rfl,rfl,trivial⟩
     ⟨Nat.zero_le _,by simp,bK,aV _ _⟩ ?_
    rintro ⟨k,vo⟩ G W ⟨hk,hall,own,nW⟩
    dsimp only at hk hall own nW
    simp only [oO]
    obtain ⟨oa,oc,rfl,_,_⟩:=own.form
    have hz5:=n05.size
    (repeat' (first|refine aa0 ?_|refine aa1 ?_|refine af ?_|refine ah ?_|refine aj ?_|refine ai ?_|refine Wc.block ?_|refine Wc.skip ?_|refine aQ ?_|refine ax ?_|refine aS ?_|refine aP ?_|refine aT ?_|refine aa3 ?_|refine aa4 ?_|refine aa9 (fun _=>?_) (fun _=>?_)|refine fF rfl rfl (fun _=>?_) (fun _=>?_)))
    ·obtain ⟨r,hr⟩:=nN rs (k:=k) (by omega)
     obtain ⟨hr2,hrx⟩:=hlt r (List.mem_of_getElem? hr)
     obtain ⟨p,q,s,rfl⟩: ∃p q s,r=[p,q,s]:=by
      match r,hr2 with
      | [p,q,s],_=>exact ⟨p,q,s,rfl⟩
     have hpl:=hrx p (by simp)
     have hql:=hrx q (by simp)
     have hsl:=hrx s (by simp)
     refine bD (hrs.keep Aj nW.keep) rfl rfl (by omega) hr fun b o cs hl hR hat=>?_
     obtain ⟨vr,rfl,hvr⟩:=hR
     obtain ⟨qa,qc,rfl,_,_⟩:=hvr.form
     have hdj: ∀b,b<W.heap.size→b<w5.heap.size→ ¬w5.heap.size≤b:=fun b _ h1 h2=>by omega
     refine au (u:=.slice qa 3 qc) rfl (hat.get 0 rfl) ?_
     clear hat
     have hfi:ok3 [p,q,s]=(fitsW p s&&fitsW q s):=rfl
     have hno:ok3 [p,q,s]=false→ ¬(rs.all ok3=true):=fun e2 e=>by
      rw [List.all_eq_true] at e;have:=e _ (List.mem_of_getElem? hr);rw [e2] at this;cases this
     have hbad: ∀W',New W W'→ok3 [p,q,s]=false→KH w W' (.tuple #[.slice none 0 0,.bool false,vi 4]) (match xR [sa,sab,ss] txt with
      |none=>none
      |some rs=>if rs.all ok3=true then some (rs.map m3,decide (txt=[])) else none):=fun W' _ e2=>by
      refine ⟨_,_,_,rfl,?_⟩
      rcases hcase with ⟨h1,rfl⟩|⟨h1,rfl,rfl⟩
      ·rw [h1];dsimp only;rw [if_neg (hno e2)];exact ne4
      ·simp at hr
     (repeat' (first|refine aa1 ?_|refine af ?_|refine ah ?_|refine aj ?_))
     refine cO rfl (by kernel_rfl) (fun w'=>New W w') (Chg.drew _ _) ?_
     intro w6 n6
     (repeat' (refine aa2 (pF (ak ?_))))
     refine aa2 (dJ (y:=p) hvr (fun w' hw=>hw.keep) rfl rfl (by omega) rfl fun b o hcell=>ak ?_)
     refine aa2 (aB (u:=w64 p) rfl hcell (ak ?_))
     (repeat' (refine aa2 (pF (ak ?_))))
     refine aa2 (dJ (y:=s) hvr (fun w' hw=>hw.keep) rfl rfl (by omega) rfl fun b o hcell=>ak ?_)
     refine aa2 (aB (u:=w64 s) rfl hcell (ak ?_))
     refine bC rfl (ay (Bq hpl hsl) rfl ?_)
     rintro _ _ ⟨rfl,rfl⟩
     refine af ⟨rfl,n6,?_⟩
     cases hf:fitsW p s
     ·have hbb:ok3 [p,q,s]=false:=by rw [hfi,hf];rfl
      (repeat' (first|refine dm ?_|refine gV rfl rfl (by assumption) ?_|refine aa2 (pF (ak ?_))|refine aa2 (dM rfl (by conv=>{lhs;whnf}) (ak ?_))|refine aa2 (eG rfl (ak ?_))))
      (repeat' (first|refine aa1 ?_|refine af ?_|refine ah ?_|refine aj ?_|refine ai ?_|refine ax ?_|refine aN ?_|refine bf ?_|refine bG ?_|refine aa3 ?_))
      exact dA rfl rfl rfl rfl ⟨_,rfl,hbad _ n6 hbb,New.trans n05 (New.trans nW n6)⟩
     ·(repeat' (first|refine dn rfl rfl ?_|refine aa2 (pF (ak ?_))|refine aa2 (eG rfl (ak ?_))))
      refine aa2 (dJ (y:=q) hvr (fun w' hw=>hw.keep) rfl rfl (by omega) rfl fun b o hcell=>ak ?_)
      (repeat' (refine dn rfl rfl ?_))
      refine aa2 (aB (u:=w64 q) rfl hcell (ak ?_))
      (repeat' (first|refine dn rfl rfl ?_|refine aa2 (pF (ak ?_))))
      refine aa2 (dJ (y:=s) hvr (fun w' hw=>hw.keep) rfl rfl (by omega) rfl fun b o hcell=>ak ?_)
      (repeat' (refine dn rfl rfl ?_))
      refine aa2 (aB (u:=w64 s) rfl hcell (ak ?_))
      (repeat' (refine dn rfl rfl ?_))
      refine bC rfl (ay (Bq hql hsl) rfl ?_)
      rintro _ _ ⟨rfl,rfl⟩
      refine af ⟨rfl,n6,?_⟩
      cases hf2:fitsW q s
      ·have hbb:ok3 [p,q,s]=false:=by rw [hfi,hf,hf2];rfl
       (repeat' (first|refine dm ?_|refine dn rfl rfl ?_|refine aa2 (dS rfl (by conv=>{lhs;whnf}) (ak ?_))|refine aa2 (eG rfl (ak ?_))))
       (repeat' (first|refine aa1 ?_|refine af ?_|refine ah ?_|refine aj ?_|refine ai ?_|refine ax ?_|refine aN ?_|refine bf ?_|refine bG ?_|refine aa3 ?_))
       exact dA rfl rfl rfl rfl ⟨_,rfl,hbad _ n6 hbb,New.trans n05 (New.trans nW n6)⟩
      ·have hbb:ok3 [p,q,s]=true:=by rw [hfi,hf,hf2];rfl
       (repeat' (first|refine dm ?_|refine dn rfl rfl ?_|refine aa2 (dS rfl (by conv=>{lhs;whnf}) (ak ?_))|refine aa2 (eG rfl (ak ?_))))
       (repeat' (first|refine ah ?_|refine Wc.skip ?_|refine aa4 ?_))
       refine cO rfl (by kernel_rfl) (fun w'=>Chg (fun k=>w5.heap.size≤k) w6 w') (Chg.drew _ _) ?_
       intro w7 n7
       (repeat' (refine aa2 (pF (ak ?_))))
       refine aa2 (dJ (y:=p) hvr (fun w' hw=>(Chg.trans n6.any hw fun k _ e=>e).keep hdj) rfl rfl (by omega) rfl fun b o hcell=>ak ?_)
       refine aa2 (aB (u:=w64 p) rfl hcell (ak ?_))
       (repeat' (refine aa2 (pF (ak ?_))))
       refine aa2 (dJ (y:=q) hvr (fun w' hw=>(Chg.trans n6.any hw fun k _ e=>e).keep hdj) rfl rfl (by omega) rfl fun b o hcell=>ak ?_)
       refine aa2 (aB (u:=w64 q) rfl hcell (ak ?_))
       (repeat' (refine aa2 (pF (ak ?_))))
       refine aa2 (dJ (y:=s) hvr (fun w' hw=>(Chg.trans n6.any hw fun k _ e=>e).keep hdj) rfl rfl (by omega) rfl fun b o hcell=>ak ?_)
       refine aa2 (aB (u:=w64 s) rfl hcell (ak ?_))
       refine bC rfl (bZ (ps:=[(0,.tmp 93),(1,.tmp 96),(2,.tmp 99)]) (parts:=[(0,w64 p),(1,w64 q),(2,w64 s)]) rfl rfl (by simp [Value.cells]) (af ⟨rfl,n7.any,?_⟩))
       refine bC rfl (dB (R:=flat KG) (y:=(p,q,s)) (Pe:=NoB) wZ rfl rfl rfl rfl (by omega) (by omega) fun vt w8 ot n8 s8 KD=>?_)
       have n78:=New.trans n7 n8
       refine af ⟨rfl,n78.any,?_⟩
       have nW8:=New.trans n6 n78
       refine bC rfl (dH wZ (own.new (mV KG) nW8) (ot.rd wZ.mo) (fun y cs hy=>hy) rfl rfl (by omega) (by simp only [maxLen,List.length_singleton,List.length_map,List.length_take];omega) (by simp only [List.length_singleton,List.length_map,List.length_take];omega) fun v9 w9 o9 c9 lie _=>?_)
       have hz:=nW.size
       have hz8:=nW8.size
       have n59:New w5 w9:=(Chg.trans (M:=fun k=>w5.heap.size≤k) (New.trans nW nW8).any c9 fun k hk e=>(own.lt e).1).toNew fun k hk e=>by omega
       have c69:Chg (fun k=>w5.heap.size≤k) w6 w9:=Chg.trans n78.any c9 fun k hk e=>(own.lt e).1
       refine af ⟨rfl,c69,?_⟩
       (repeat' (first|refine dm ?_|refine aa2 (fB (by conv=>{lhs;whnf}) (ak ?_))))
       (repeat' (first|refine aa0 ?_|refine af ?_|refine ah ?_|refine ai ?_|refine aJ ?_|refine aa7 ?_))
       refine aK (k+1,v9) ⟨rfl,rfl,rfl,rfl,rfl,rfl,trivial⟩ ⟨by dsimp only;omega,KC hr hall hbb,?_,n59⟩ (by dsimp only;omega)
       rw [take_snoc hr,List.map_append]
       exact o9.mono wZ.mo (fun b _ e=>by rcases e with e|e;exact e;omega) (fun _ _ e=>e)
    ·rename_i htn
     obtain rfl:k=rs.length:=by omega
     rw [List.take_length] at hall
     have hmt:rs.map m3=(rs.take rs.length).map m3:=by rw [List.take_length]
     refine dA rfl rfl rfl rfl ⟨_,rfl,⟨_,_,_,rfl,?_⟩,New.trans n05 nW⟩
     rcases hcase with ⟨h1,rfl⟩|⟨h1,rfl,rfl⟩
     ·rw [h1];dsimp only
      rw [if_pos (List.all_eq_true.2 hall)]
      rw [hmt]
      exact ⟨rfl,(decide_eq_true htn).symm,(own.rd wZ.mo).mono wZ.mo fun b hb e=>by rcases e with e|e;(have:w5.heap.size≤b:=e;omega);exact e.elim⟩
     ·rw [h1];exact ne4
    ·rename_i htn
     obtain rfl:k=rs.length:=by omega
     rw [List.take_length] at hall
     have hmt:rs.map m3=(rs.take rs.length).map m3:=by rw [List.take_length]
     refine dA rfl rfl rfl rfl ⟨_,rfl,⟨_,_,_,rfl,?_⟩,New.trans n05 nW⟩
     rcases hcase with ⟨h1,rfl⟩|⟨h1,rfl,rfl⟩
     ·rw [h1];dsimp only
      rw [if_pos (List.all_eq_true.2 hall)]
      rw [hmt]
      exact ⟨rfl,(decide_eq_false htn).symm,(own.rd wZ.mo).mono wZ.mo fun b hb e=>by rcases e with e|e;(have:w5.heap.size≤b:=e;omega);exact e.elim⟩
     ·rw [h1];exact ne4
theorem Tc {t:List Nd} {i:Nat} {ms:List Qv} {b:Bool} (hok:nV t=true) (hi:i<t.length) (h:J4 t i=some (ms,b)):ms.length≤1024∧ ∀m∈ms,m.1<18446744073709551616∧m.2.1<18446744073709551616∧m.2.2<18446744073709551616:=by
 rw [KI] at h
 split at h
 ·cases h
 ·rename_i txt htx
  have htl:=yT hok hi htx
  split at h
  ·rename_i a s above x h1 h2
   split at h
   ·cases h
   ·rename_i rs hrs
    split at h
    ·simp only [Option.some.injEq,Prod.mk.injEq] at h
     obtain ⟨rfl,rfl⟩:=h
     have k1:=vX h1
     have k2:=vX h2
     have hlt:=xZ (ws:=[a,above,s]) (by intro x hx;simp at hx;omega) hrs
     refine ⟨by rw [List.length_map];omega,fun m hm=>?_⟩
     obtain ⟨r,hr,rfl⟩:=List.mem_map.1 hm
     obtain ⟨hr2,hrx⟩:=hlt.1 r hr
     match r,hr2 with
     | [p,q,s],_=>exact ⟨hrx p (by simp),hrx q (by simp),hrx s (by simp)⟩
    ·cases h
  ·cases h
end Go.Proofs.YtjecgaiaiophpaaGreatDoor
namespace Go.Proofs.YtjecgaiaiophpaaGreatDoor
open Go Wk
open Go.RowKit (Below)
attribute [local irreducible] Go.Calls
theorem OT (k:Nat):IntKind.u64.wrap (k:Int)=((k % 2^64:Nat):Int):=by
 rw [show IntKind.u64.wrap (k:Int)=(k:Int) % 18446744073709551616 by simp [IntKind.wrap,IntKind.bits,IntKind.signed]]
 omega
def OU (r:Value) (o:Option Nat):Prop:= ∃(k:Nat) (e:Int),r=.tuple #[w64 k,vi e]∧match o with
 |none=>e≠0
 |some b=>e=0∧k=b∧b<18446744073709551616
theorem I8 {x:Win} {ms:List Qv} {k:Nat} {m:Qv} (h:ms[k]? =some m):wW x (ms.drop k)=if within x m.1 m.2.2=true then some ((m.2.1+(x.1-m.1)) % 2^64) else wW x (ms.drop (k+1)):=by
 rw [drop_cons h,wW]
theorem I9 {Pb:Nat→Prop} {w:World} {v:Value} {l:List Nd} {i:Nat} {x:Win} (h:RdS rNd 3 Pb w v l) (hok:nV l=true) (h0:i≠0) (hi:i<l.length) (hx1:x.1<18446744073709551616) (hx2:x.2<18446744073709551616):
 Calls Tryz.prog 300 #[v,vi i,.agg (wP x).toArray,.bool false] w (Ret fun r w'=>OU r (xU l i x)∧New w w'):=by
 obtain ⟨a,cap,rfl,hc1,hc2⟩:=h.form
 have hlen:=oN hok
 unfold xU
 refine mQ Tryz.func300 rfl Tryz.ntmps300 rfl ?_
 (repeat' (first|refine aj ?_|refine ai ?_))
 refine bJ rfl fun w1 b1 n1 s1=>?_
 replace b1:Bk w1 w.heap.size 344 [w64 x.1,w64 x.2]:=b1
 (repeat' (first|refine aa0 ?_|refine aa1 ?_|refine af ?_|refine ah ?_|refine aj ?_|refine ai ?_))
 refine ay (Qw (h.keep nO n1.keep) hok h0 hi) rfl ?_
 rintro _ w2 ⟨⟨vm,bb,e,rfl,hm⟩,n2⟩
 have n02:=New.trans n1 n2
 have b2:=b1.chg n2 fun e=>e
 cases hmm:J4 l i with
 |none=>
  rw [hmm] at hm
  dsimp only at hm
  (repeat' (first|refine aa0 ?_|refine aa1 ?_|refine af ?_|refine aa8 ?_|refine qi ?_|refine pG ?_|refine ah ?_|refine aj ?_|refine ai ?_|refine aa3 ?_|refine aa5 ?_|(refine pV (fun _=>?_) (fun _=>?_)<;>(first|(exfalso;omega)|skip))))
  refine au (u:=w64 x.1) rfl (b2.cell (o:=0) rfl) ?_
  (repeat' (first|refine aa0 ?_|refine aa1 ?_|refine af ?_|refine ah ?_|refine ax ?_|refine aN ?_))
  exact aW rfl rfl rfl ⟨_,rfl,⟨_,_,rfl,hm⟩,n02⟩
 |some q=>
  obtain ⟨ms,same⟩:=q
  rw [hmm] at hm
  obtain ⟨rfl,rfl,hrd⟩:=hm
  obtain ⟨hml,hmx⟩:=Tc hok hi hmm
  dsimp only at hrd
  obtain ⟨ma,mc,rfl,_,_⟩:=hrd.form
  cases bb
  ·(repeat' (first|refine aa0 ?_|refine aa1 ?_|refine af ?_|refine aa8 ?_|refine aa6 ?_|refine pq ?_|refine aO rfl ?_|refine ah ?_|refine aj ?_|refine ai ?_|refine Wc.block ?_|refine Wc.skip ?_|refine aa4 ?_|(refine pV (fun _=>?_) (fun _=>?_)<;>(first|(exfalso;omega)|skip))))
   refine aU (σ:=Nat) (fun k=>[(3,.bool false),(6,.pointer (some ⟨w.heap.size,0,none⟩)),(32,.slice ma ms.length mc),(33,vi ms.length),(34,vi k)])
    (fun k W=>k≤ms.length∧wW x ms=wW x (ms.drop k)∧New w2 W) (fun k=>ms.length-k) 0 ⟨rfl,rfl,rfl,rfl,rfl,trivial⟩ ⟨Nat.zero_le _,by simp,aV _ _⟩ ?_
   rintro k G W ⟨hk,hf,nW⟩
   simp only [oO]
   have bW:=b2.chg nW fun e=>e
   (repeat' (first|refine aa1 ?_|refine af ?_|refine ah ?_|refine aj ?_|refine ai ?_|refine Wc.block ?_|refine Wc.skip ?_|refine aQ ?_|refine ax ?_|refine aS ?_|refine aP ?_|refine aT ?_|refine aa3 ?_|refine aa4 ?_|refine aa9 (fun _=>?_) (fun _=>?_)))
   ·obtain ⟨m,hm⟩:=nN ms (k:=k) (by omega)
    obtain ⟨hm1,hm2,hm3⟩:=hmx m (List.mem_of_getElem? hm)
    refine bD (hrd.keep (nU _) nW.keep) rfl rfl (by omega) hm fun b o cs hl hR hat=>?_
    obtain rfl:cs=KG m:=hR
    refine bQ hat rfl rfl ?_
    clear hat
    refine Wl.alloc fun w3 b3 n3 s3=>?_
    skip
    refine aX (new:=KG m) b3 rfl rfl rfl rfl (show (3:Nat)≤3 from Nat.le_refl 3) (by intro c hc;simp at hc;rcases hc with rfl|rfl|rfl<;>rfl) fun w4 b4 c4 s4=>?_
    replace b4:Bk w4 W.heap.size 404 (KG m):=b4
    have n4:New W w4:=(Chg.trans n3.any c4 fun _ _ e=>e).toNew fun k hk e=>by omega
    have n24:=New.trans nW n4
    (repeat' (first|refine af ?_|refine ah ?_|refine aj ?_))
    refine cO rfl (by kernel_rfl) (fun w'=>New w4 w') (Chg.drew _ _) ?_
    intro w5 n5
    (repeat' (refine aa2 (pK (ak ?_))))
    refine aa2 (aB (u:=w64 m.1) rfl (fun w' hw=>(b4.chg hw fun e=>e).cell (o:=0) rfl) (ak ?_))
    (repeat' (refine aa2 (pK (ak ?_))))
    refine aa2 (aB (u:=w64 m.2.1) rfl (fun w' hw=>(b4.chg hw fun e=>e).cell (o:=1) rfl) (ak ?_))
    (repeat' (first|refine dm ?_|refine aa2 (fB (by conv=>{lhs;whnf}) (ak ?_))))
    have n25:=New.trans n24 n5
    have b5:=b4.chg n5 fun e=>e
    have bx5:=b2.chg n25 fun e=>e
    (repeat' (first|refine aa0 ?_|refine af ?_|refine ah ?_|refine aj ?_|refine ai ?_|refine Wc.skip ?_|refine aa4 ?_))
    refine dh bx5 rfl rfl ?_
    (repeat' (first|refine aa0 ?_|refine aa5 ?_))
    refine au (u:=w64 m.2.2) rfl (b5.cell (o:=2) rfl) ?_
    refine ay (J8 (x:=x) hx1 hx2 hm1 hm3) rfl ?_
    rintro _ w6 ⟨rfl,n6⟩
    have n26:=New.trans n25 n6
    have bx6:=bx5.chg n6 fun e=>e
    rw [I8 hm] at hf
    cases hw:within x m.1 m.2.2
    ·(repeat' (first|refine aa0 ?_|refine af ?_|refine ah ?_|refine ai ?_|refine Wc.skip ?_|refine aJ ?_|refine aa4 ?_|refine aa7 ?_))
     refine aK (k+1) ⟨rfl,rfl,rfl,rfl,rfl,trivial⟩ ⟨by omega,?_,n26⟩ (by omega)
     rw [hf,if_neg (by rw [hw];decide)]
    ·have hwi:m.1≤x.1:=by
      unfold within at hw
      rw [decide_eq_true_eq] at hw;exact hw.1
     (repeat' (first|refine aa0 ?_|refine af ?_|refine ah ?_|refine aj ?_|refine ai ?_|refine aa3 ?_|refine aa5 ?_))
     refine au (u:=w64 x.1) rfl (bx6.cell (o:=0) rfl) ?_
     (repeat' (refine aa0 ?_))
     refine fJ rfl rfl ?_
     rw [yV hwi hx1]
     refine iM rfl rfl ?_
     rw [show ((m.2.1:Int)+((x.1-m.1:Nat):Int))=((m.2.1+(x.1-m.1):Nat):Int) by omega,OT]
     (repeat' (first|refine aa1 ?_|refine af ?_|refine ah ?_|refine ax ?_|refine aN ?_|refine bf ?_|refine bG ?_))
     refine aW rfl rfl rfl ⟨_,rfl,⟨_,_,rfl,?_⟩,New.trans n02 n26⟩
     rw [if_neg (by decide),hf,if_pos hw]
     exact ⟨rfl,rfl,Nat.mod_lt _ (by decide)⟩
   ·obtain rfl:k=ms.length:=by omega
    rw [List.drop_length] at hf
    refine aW rfl rfl rfl ⟨_,rfl,⟨0,_,rfl,?_⟩,New.trans n02 nW⟩
    rw [if_neg (by decide),hf]
    show (150:Int)≠0
    decide
  ·(repeat' (first|refine aa0 ?_|refine aa1 ?_|refine af ?_|refine aa8 ?_|refine aa6 ?_|refine pq ?_|refine ah ?_|refine aj ?_|refine ai ?_|refine aa3 ?_|refine aa5 ?_|(refine pV (fun _=>?_) (fun _=>?_)<;>(first|(exfalso;omega)|skip))))
   refine au (u:=w64 x.1) rfl (b2.cell (o:=0) rfl) ?_
   (repeat' (first|refine aa0 ?_|refine aa1 ?_|refine af ?_|refine ah ?_|refine ax ?_|refine aN ?_))
   exact aW rfl rfl rfl ⟨_,rfl,⟨_,_,rfl,by dsimp only;rw [if_pos rfl];exact ⟨rfl,rfl,hx1⟩⟩,n02⟩
theorem Ja {Pb Pw:Nat→Prop} {w:World} {v vw:Value} {l:List Nd} {ws:List Nat} {x:Win} (h:RdS rNd 3 Pb w v l) (hok:nV l=true) (hw:RdS (Wk.one viN) 1 Pw w vw ws) (hws: ∀k∈ws,k≠0∧k<l.length) (hx1:x.1<18446744073709551616) (hx2:x.2<18446744073709551616):
 Calls Tryz.prog 281 #[v,vw,.agg (wP x).toArray,.bool false] w (Ret fun r w'=>OU r (qZ l ws x)∧New w w'):=by
 obtain ⟨a,cap,rfl,hc1,hc2⟩:=h.form
 obtain ⟨wa,wc,rfl,hd1,hd2⟩:=hw.form
 have hlen:=oN hok
 simp only [maxLen] at hd2
 refine mQ Tryz.func281 rfl Tryz.ntmps281 rfl ?_
 (repeat' (first|refine aj ?_|refine ai ?_))
 refine bJ rfl fun w1 b1 n1 s1=>?_
 replace b1:Bk w1 w.heap.size 344 [w64 x.1,w64 x.2]:=b1
 (repeat' (first|refine aa0 ?_|refine aa1 ?_|refine af ?_|refine aO rfl ?_|refine ah ?_|refine aj ?_|refine ai ?_|refine Wc.block ?_))
 refine aU (σ:=Nat×Nat) (fun q=>[(0,.slice a l.length cap),(3,.bool false),(6,.pointer (some ⟨w.heap.size,0,none⟩)),(14,.slice wa ws.length wc),(15,vi ws.length),(16,vi q.1)])
  (fun q W=>q.1≤ws.length∧q.2<18446744073709551616∧qZ l ws x=qZ l (ws.drop q.1) (q.2,x.2)∧Bk W w.heap.size 344 [w64 q.2,w64 x.2]∧New w W) (fun q=>ws.length-q.1) (0,x.1) ⟨rfl,rfl,rfl,rfl,rfl,rfl,trivial⟩ ⟨Nat.zero_le _,hx1,by simp,b1,n1⟩ ?_
 rintro ⟨k,c⟩ G W ⟨hk,hcl,hT,bW,nW⟩
 dsimp only at hk hcl hT bW nW
 simp only [oO]
 (repeat' (first|refine af ?_|refine ah ?_|refine aj ?_|refine ai ?_|refine Wc.block ?_|refine Wc.skip ?_|refine aQ ?_|refine aS ?_|refine aP ?_|refine aT ?_|refine aa3 ?_|refine aa4 ?_|refine aa5 ?_|refine aa9 (fun _=>?_) (fun _=>?_)))
 ·obtain ⟨i,hi⟩:=nN ws (k:=k) (by omega)
  obtain ⟨hi0,hil⟩:=hws i (List.mem_of_getElem? hi)
  refine bY (hw.keep (nT _) nW.keep) rfl rfl (by omega) hi fun b o hcell=>?_
  refine au (u:=vi i) rfl hcell ?_
  (repeat' (first|refine aa0 ?_|refine aa1 ?_|refine af ?_|refine ah ?_|refine aj ?_|refine ai ?_))
  refine dh bW rfl rfl ?_
  (repeat' (refine aa0 ?_))
  refine ay (I9 (x:=(c,x.2)) (h.keep nO nW.keep) hok hi0 hil hcl hx2) rfl ?_
  rintro _ w2 ⟨⟨r,e,rfl,hr⟩,n2⟩
  have n02:=New.trans nW n2
  have b2:=bW.chg n2 fun e=>e
  rw [drop_cons hi,qZ] at hT
  cases hcm:xU l i (c,x.2) with
  |none=>
   rw [hcm] at hr hT
   dsimp only at hr
   (repeat' (first|refine aa0 ?_|refine aa1 ?_|refine af ?_|refine aa8 ?_|refine ah ?_|refine aj ?_|refine ai ?_|refine ax ?_|refine aN ?_|refine bf ?_|refine bG ?_|refine aa3 ?_|(refine pV (fun _=>?_) (fun _=>?_)<;>(first|(exfalso;omega)|skip))))
   exact aW rfl rfl rfl ⟨_,rfl,⟨0,_,rfl,by rw [hT];exact hr⟩,n02⟩
  |some b=>
   rw [hcm] at hr hT
   obtain ⟨rfl,rfl,hrl⟩:=hr
   dsimp only at hT
   (repeat' (first|refine aa0 ?_|refine aa1 ?_|refine af ?_|refine aa8 ?_|refine ah ?_|refine aj ?_|refine ai ?_|refine Wc.skip ?_|refine aa4 ?_|refine aa5 ?_|(refine pV (fun _=>?_) (fun _=>?_)<;>(first|(exfalso;omega)|skip))))
   refine bH (u:=w64 r) b2 rfl (show (0:Nat)<2 by omega) rfl rfl fun w3 b3 c3=>?_
   (repeat' (first|refine aa0 ?_|refine af ?_|refine ah ?_|refine ai ?_|refine aJ ?_|refine aa7 ?_))
   have n03:New w w3:=(Chg.trans n02.any c3 fun _ _ e=>e).toNew fun k hk e=>by omega
   exact aK (k+1,r) ⟨rfl,rfl,rfl,rfl,rfl,rfl,trivial⟩ ⟨by dsimp only;omega,hrl,hT,b3,n03⟩ (by dsimp only;omega)
 ·obtain rfl:k=ws.length:=by omega
  rw [List.drop_length,qZ] at hT
  refine au (u:=w64 c) rfl (bW.cell (o:=0) rfl) ?_
  (repeat' (first|refine aa1 ?_|refine af ?_|refine ah ?_|refine ax ?_))
  exact aW rfl rfl rfl ⟨_,rfl,⟨_,_,rfl,by rw [hT];exact ⟨rfl,rfl,hcl⟩⟩,nW⟩
theorem OV {t:List Nd} {i:Nat} {ws:List Win} (hok:nV t=true) (hi:i<t.length) (h:Qc t i=some ws):ws.length≤1024∧ ∀x∈ws,x.1<18446744073709551616∧x.2<18446744073709551616:=by
 unfold Qc at h
 split at h
 ·cases h
 ·rename_i a s hs
  have hvl:((sZ t i [114,101,103]).getD []).length≤1024:=xW hok hi
  split at h
  ·cases h
  ·rename_i rs hrs
   split at h
   ·cases h
    have k1:=vX hs
    have hlt:=xZ (ws:=[a,s]) (by intro x hx;simp at hx;omega) hrs
    refine ⟨by rw [List.length_map];omega,fun m hm=>?_⟩
    obtain ⟨r,hr,rfl⟩:=List.mem_map.1 hm
    obtain ⟨hr2,hrx⟩:=hlt.1 r hr
    match r,hr2 with
    | [p,q],_=>exact ⟨hrx p (by simp),hrx q (by simp)⟩
   ·cases h
theorem CW {α β:Type} {f:α→Option β}: ∀ {l:List α} {x:α},x∈l→f x=none→tK f l=none
 | [],x,h,_=>by simp at h
 |y::r,x,h,e=>by
  rw [tK]
  rcases List.mem_cons.1 h with rfl|h
  ·rw [e]
  ·cases f y with
   |none=>rfl
   |some z=>dsimp only;rw [CW h e];rfl
theorem Eo {α β:Type} {f:α→Option β} {g:α→β}: ∀ {l:List α},(∀x∈l,f x=some (g x))→tK f l=some (l.map g)
 | [],_=>rfl
 |y::r,h=>by
  rw [tK,h y (by simp)]
  dsimp only
  rw [Eo fun x hx=>h x (List.mem_cons_of_mem _ hx)];rfl
theorem CX {α β:Type} {f:α→Option β}: ∀ {l:List α} {r:List β},tK f l=some r→r.length=l.length∧ ∀x∈l, ∃y,f x=some y∧y∈r
 | [],r,h=>by cases h;simp
 |y::l,r,h=>by
  rw [tK] at h
  cases hy:f y with
  |none=>rw [hy] at h;cases h
  |some z=>
   rw [hy] at h
   dsimp only at h
   obtain ⟨r',h1,rfl⟩:=Option.map_eq_some_iff.1 h
   obtain ⟨i1,i2⟩:=CX h1
   refine ⟨by simp [i1],fun x hx=>?_⟩
   rcases List.mem_cons.1 hx with rfl|hx
   ·exact ⟨z,hy,by simp⟩
   ·obtain ⟨y',e1,e2⟩:=i2 x hx
    exact ⟨y',e1,List.mem_cons_of_mem _ e2⟩
def outW (t:List Nd) (i:Nat) (w:Win):Option Win:=(qZ t (Cf t (par t i)) w).map fun b=>(b,w.2)
theorem Jb {Pb:Nat→Prop} {w:World} {v:Value} {l:List Nd} {i:Nat} (h:RdS rNd 3 Pb w v l) (hok:nV l=true) (h0:i≠0) (hi:i<l.length):
 Calls Tryz.prog 270 #[v,vi i] w (Ret fun r w'=>FZ w w' r (uq l i)∧New w w'):=by
 obtain ⟨a,cap,rfl,hc1,hc2⟩:=h.form
 have hlen:=oN hok
 have hp:=uo hok h0 hi
 have hx:=FX hi
 replace h:=h.mono (Pb':=fun k=>k<w.heap.size) zH fun k hk _=>hk
 unfold uq
 refine mQ Tryz.func270 rfl Tryz.ntmps270 rfl ?_
 (repeat' (first|refine aa0 ?_|refine aa1 ?_|refine af ?_|refine ah ?_|refine aj ?_|refine ai ?_))
 refine ay (SQ h hok h0 hi) rfl ?_
 rintro _ w1 ⟨⟨vr,e,rfl,hr⟩,n1⟩
 cases WT:Qc l i with
 |none=>
  rw [WT] at hr
  dsimp only at hr
  (repeat' (first|refine aa0 ?_|refine aa1 ?_|refine af ?_|refine aa8 ?_|refine ah ?_|refine aj ?_|refine ai ?_|refine ax ?_|refine aN ?_|refine aa3 ?_|(refine pV (fun _=>?_) (fun _=>?_)<;>(first|(exfalso;omega)|skip))))
  exact aW rfl rfl rfl ⟨_,rfl,⟨_,_,rfl,hr⟩,n1⟩
 |some ws=>
  rw [WT] at hr
  obtain ⟨rfl,U5⟩:=hr
  obtain ⟨hwl,hwx⟩:=OV hok hi WT
  obtain ⟨ra,rc,rfl,_,_⟩:=U5.form
  have hz1:=n1.size
  dsimp only
  have hout: ∀q∈ws,(qZ l (Cf l (par l i)) q).map (fun b=>(b,q.2))=outW l i q:=fun _ _=>rfl
  (repeat' (first|refine aa0 ?_|refine aa1 ?_|refine af ?_|refine aa8 ?_|refine aO rfl ?_|refine ah ?_|refine aj ?_|refine ai ?_|refine Wc.block ?_|refine Wc.skip ?_|refine aa4 ?_|(refine pV (fun _=>?_) (fun _=>?_)<;>(first|(exfalso;omega)|skip))))
  refine aU (σ:=Nat×List Win) (fun q=>[(0,.slice a l.length cap),(1,vi i),(6,.slice ra ws.length rc),(19,.slice ra ws.length rc),(20,vi ws.length),(21,vi q.1)])
   (fun q W=>q.1≤ws.length∧q.2.length=q.1∧(∀j x,j<q.1→ws[j]? =some x→ ∃y,q.2[j]? =some y∧outW l i x=some y)∧ny (flat wP) 344 2 (fun b=>w.heap.size≤b) NoB W (.slice ra ws.length rc) (q.2++ws.drop q.1)∧New w W) (fun q=>ws.length-q.1) (0,[]) ⟨rfl,rfl,rfl,rfl,rfl,rfl,trivial⟩
   ⟨Nat.zero_le _,rfl,by intro j x hj;omega,by simpa using U5,n1⟩ ?_
  rintro ⟨k,ys⟩ G W ⟨hk,hyl,hys,own,nW⟩
  dsimp only at hk hyl hys own nW
  simp only [oO]
  have hzW:=nW.size
  (repeat' (first|refine aa0 ?_|refine aa1 ?_|refine af ?_|refine ah ?_|refine aj ?_|refine ai ?_|refine Wc.block ?_|refine Wc.skip ?_|refine aQ ?_|refine ax ?_|refine aS ?_|refine aP ?_|refine aT ?_|refine aa3 ?_|refine aa4 ?_|refine aa9 (fun _=>?_) (fun _=>?_)))
  ·obtain ⟨x,hxk⟩:=nN ws (k:=k) (by omega)
   obtain ⟨hx1,hx2⟩:=hwx x (List.mem_of_getElem? hxk)
   have hol:(ys++ws.drop k).length=ws.length:=by simp;omega
   have hok2:(ys++ws.drop k)[k]? =some x:=by rw [List.getElem?_append_right (by omega),hyl,Nat.sub_self,List.getElem?_drop,Nat.add_zero];exact hxk
   have own':=own
   rw [←hol] at own'
   refine bD (own'.rd wY.mo) (by rw [hol];rfl) rfl (by omega) hok2 fun b o cs hl hR hat=>?_
   obtain rfl:cs=wP x:=hR
   refine bQ hat rfl rfl ?_
   clear hat
   refine Wl.alloc fun w2 b2 n2 s2=>?_
   (repeat' (refine aa1 ?_))
   refine aX (new:=wP x) b2 rfl rfl rfl rfl (show (2:Nat)≤2 from Nat.le_refl 2) (by intro c hc;simp at hc;rcases hc with rfl|rfl<;>rfl) fun w3 b3 c3 s3=>?_
   replace b3:Bk w3 W.heap.size 344 (wP x):=b3
   have n3:New W w3:=(Chg.trans n2.any c3 fun _ _ e=>e).toNew fun k hk e=>by omega
   have n03:=New.trans nW n3
   have vP:=own.new (mV wP) n3
   obtain ⟨gb,gc,hvg,hgb,hgl,hob⟩:=own.blk (by intro e;rw [e,List.length_nil] at hol;omega)
   obtain ⟨rfl,rfl⟩:ra=some ⟨gb,0,none⟩∧rc=gc:=by injection hvg with e1 _ e2;exact ⟨e1,e2⟩
   have hdj: ∀b,b<w.heap.size→b<w.heap.size→ ¬b=gb:=fun b _ h1 e=>by omega
   (repeat' (first|refine af ?_|refine ah ?_|refine aj ?_))
   refine cO rfl (by kernel_rfl) (fun w'=>Chg (fun k=>k=gb) w3 w') (Chg.drew _ _) ?_
   intro w4 n4
   have hkeep: ∀w',Chg (fun k=>k=gb) w3 w'→Keep (fun k=>k<w.heap.size) w w':=fun w' hw=>(Chg.trans (M:=fun k=>k=gb) n03.any hw fun k _ e=>e).keep hdj
   have hne: ¬W.heap.size=gb:=by omega
   (repeat' (refine aa2 (pF (ak ?_))))
   refine aa2 (dD h (fun w' hw=>hkeep w' hw) rfl rfl (by omega) hx fun b o cs hl hR hat=>ak ?_)
   obtain ⟨pv,rfl,hpv⟩:=hR
   (repeat' (refine aa2 (pK (ak ?_))))
   refine aa2 (aB (u:=vi (ndA l i).parent) rfl (fun w' hw=>(hat w' hw).get 0 rfl) (ak ?_))
   clear hat
   skip
   refine bC rfl (ay (Qd (i:=par l i) (h.keep nO (hkeep w4 n4.any)) hok (by omega)) (by rw [hp.2];rfl) ?_)
   rintro vw w5 ⟨ow,n5⟩
   have n45:=New.trans n4 n5
   refine af ⟨rfl,n45.any,?_⟩
   skip
   refine aa2 (cu (cs:=wP x) (fun w' hw=>(b3.chg hw hne).at) rfl rfl (ak ?_))
   skip
   refine bC rfl (ay (Ja (x:=x) (h.keep nO (hkeep w5 n45.any)) hok (ow.rd (nD _)) (fun k hk=>by have:=UW hok _ (by omega) k hk;omega) hx1 hx2) rfl ?_)
   rintro _ w6 ⟨⟨r,e,rfl,hr⟩,n6⟩
   have n46:=New.trans n45 n6
   refine af ⟨rfl,n46.any,?_⟩
   (repeat' (first|refine aa2 (pF (ak ?_))|refine aa2 (iq rfl rfl (ak ?_))))
   refine aa2 (rY (ak ?_))
   (repeat' (refine aa2 (pK (ak ?_))))
   refine bC rfl (fG (f:=wP) (g:=gb) (j:=k) (o:=0) (cap:=rc) (p:=x) (q:=(r,x.2)) (u:=w64 r) (fun _=>rfl) (by omega) rfl hok2 rfl (vP.new (mV wP) n46) (by rw [hol]) (by show Value.pointer (some ⟨gb,0+(k:Int).toNat*2+0,none⟩)=_;simp) rfl fun w7 o7 c7=>?_)
   have c37:Chg (fun k=>k=gb) w3 w7:=Chg.trans n46.any c7 fun k _ e=>by cases e;rfl
   refine af ⟨rfl,c37,?_⟩
   (repeat' (first|refine dm ?_|refine aa2 (fB (by conv=>{lhs;whnf}) (ak ?_))))
   have n07:New w w7:=(Chg.trans n03.any c37 fun _ _ e=>e).toNew fun k hk e=>by omega
   cases hth:qZ l (Cf l (par l i)) x with
   |none=>
    rw [hth] at hr
    dsimp only at hr
    (repeat' (first|refine aa0 ?_|refine aa1 ?_|refine af ?_|refine ah ?_|refine aj ?_|refine ai ?_|refine ax ?_|refine aN ?_|refine bf ?_|refine bG ?_|refine aa3 ?_|(refine pV (fun _=>?_) (fun _=>?_)<;>(first|(exfalso;omega)|skip))))
    refine aW rfl rfl rfl ⟨_,rfl,⟨_,_,rfl,?_⟩,n07⟩
    rw [CW (List.mem_of_getElem? hxk) (by rw [hth];rfl)]
    exact hr
   |some b=>
    rw [hth] at hr
    obtain ⟨rfl,rfl,hrl⟩:=hr
    (repeat' (first|refine aa0 ?_|refine af ?_|refine ah ?_|refine aj ?_|refine ai ?_|refine Wc.skip ?_|refine aJ ?_|refine aa4 ?_|refine aa7 ?_|(refine pV (fun _=>?_) (fun _=>?_)<;>(first|(exfalso;omega)|skip))))
    refine aK (k+1,ys++ [(r,x.2)]) ⟨rfl,rfl,rfl,rfl,rfl,rfl,trivial⟩ ⟨by dsimp only;omega,by simp;omega,?_,?_,n07⟩ (by dsimp only;omega)
    ·intro j y hj hy
     dsimp only at hj ⊢
     by_cases e:j<k
     ·obtain ⟨z,h1,h2⟩:=hys j y e hy
      exact ⟨z,by rw [List.getElem?_append_left (by omega)];exact h1,h2⟩
     ·obtain rfl:j=k:=by omega
      rw [hxk] at hy;cases hy
      exact ⟨(r,x.2),by rw [List.getElem?_append_right (by omega),hyl,Nat.sub_self];rfl,by unfold outW;rw [hth];rfl⟩
    ·have hset:(ys++ws.drop k).set k (r,x.2)=ys++ [(r,x.2)]++ws.drop (k+1):=by
      rw [drop_cons hxk,List.set_append_right _ _ (by omega),hyl,Nat.sub_self]
      simp
     rw [hset] at o7
     exact o7
  ·obtain rfl:k=ws.length:=by omega
   rw [List.drop_length,List.append_nil] at own
   refine aW rfl rfl rfl ⟨_,rfl,⟨_,_,rfl,?_⟩,nW⟩
   have hal:tK (fun q=>(qZ l (Cf l (par l i)) q).map fun b=>(b,q.2)) ws=some ys:=by
    have h1:tK (outW l i) ws=some (ws.map fun q=>(outW l i q).getD (0,0)):=Eo fun q hq=>by
     obtain ⟨j,hj⟩:=List.mem_iff_getElem?.1 hq
     obtain ⟨y,_,e2⟩:=hys j q (List.getElem?_eq_some_iff.1 hj).1 hj
     rw [e2];rfl
    have h2:(ws.map fun q=>(outW l i q).getD (0,0))=ys:=by
     apply List.ext_getElem?
     intro j
     rw [List.getElem?_map]
     by_cases hj:j<ws.length
     ·obtain ⟨q,hq⟩:=nN ws hj
      obtain ⟨y,e1,e2⟩:=hys j q hj hq
      rw [hq,e1,Option.map_some,e2];rfl
     ·rw [List.getElem?_eq_none (by omega),List.getElem?_eq_none (by omega)];rfl
    rw [h2] at h1
    exact h1
   rw [hal]
   exact ⟨rfl,own⟩
theorem Jc {Pb:Nat→Prop} {w:World} {v:Value} {l:List Nd} {i:Nat} (h:RdS rNd 3 Pb w v l) (hok:nV l=true) (h0:i≠0) (hi:i<l.length):
 Calls Tryz.prog 244 #[v,vi i] w (Ret fun r w'=>FZ w w' r (uq l i)∧New w w'):=by
 obtain ⟨a,cap,rfl,hc1,hc2⟩:=h.form
 refine mQ Tryz.func244 rfl Tryz.ntmps244 rfl ?_
 (repeat' (first|refine aa0 ?_|refine aa1 ?_|refine af ?_|refine ah ?_|refine aj ?_|refine ai ?_))
 refine ay (Nc (least:=1) h hok hi (by omega)) rfl ?_
 rintro _ w1 ⟨rfl,n1⟩
 (repeat' (first|refine aa0 ?_|refine aa1 ?_|refine af ?_|refine ah ?_|refine aj ?_|refine ai ?_|refine Wc.skip ?_|refine aa4 ?_|(refine pV (fun _=>?_) (fun _=>?_)<;>(first|(exfalso;omega)|skip))))
 refine ay (Jb (h.keep nO n1.keep) hok h0 hi) rfl ?_
 rintro _ w2 ⟨⟨vr,e,rfl,hr⟩,n2⟩
 (repeat' (first|refine aa1 ?_|refine af ?_|refine aa8 ?_|refine ah ?_|refine ax ?_))
 refine aW rfl rfl rfl ⟨_,rfl,⟨_,_,rfl,?_⟩,New.trans n1 n2⟩
 cases hw:uq l i with
 |none=>rw [hw] at hr;exact hr
 |some ws=>
  rw [hw] at hr
  exact ⟨hr.1,hr.2.mono wY.mo (fun b hb e=>by have:=n1.size;omega) (fun _ _ e=>e)⟩
end Go.Proofs.YtjecgaiaiophpaaGreatDoor
namespace Go.Proofs.YtjecgaiaiophpaaGreatDoor
open Go Wk
open Go.RowKit (Below)
attribute [local irreducible] Go.Calls
section
variable {P:Program} {n:Nat} {ds:List Deferred} {Q:Po} {F:Fr} {w:World} {ops rest:List Oper} {d:Nat} {ty:TypeId} {pos:String} {aft:Array Edge}
theorem jG {x:Operand} {e:TypeId} {u:Value} (hx:ev n F x=u) (c: ∀w',Bk w' w.heap.size e u.cells.toList→Grw w w'→Wl P n ds Q ops rest (upd F d (.pointer (some ⟨w.heap.size,0,none⟩))) w'):
 Wl P n ds Q ops (⟨some d,.box e x,ty,pos,aft,none⟩::rest) F w:=by
 refine Wl.val (w':=w.alloc (.cells u.cells e)) ?_ (c _ (by simpa [Bk] using heap_alloc_new w (.cells u.cells e)) ((Grw.refl w).alloc _))
 simp [execOp,Instr.box,hx,newVar,newRow]
end
theorem Grw.trans {w w' w'':World} (h:Grw w w') (k:Grw w' w''):Grw w w'':=by
 obtain ⟨q,os,rfl⟩:=h
 obtain ⟨q',os',rfl⟩:=k
 refine ⟨q+q',os++os',?_⟩
 simp [Sort.grow,World.drewN,Nat.add_assoc]
theorem U6 (a b:Clm):orM [xF a.kind b.kind,xF a.from_ b.from_,xF a.upto b.upto]=ru a b:=by
 have e: ∀x y:Nat,xF x y=if x<y then-1 else if y<x then 1 else 0:=fun x y=>by
  unfold xF
  simp only [Int.ofNat_lt]
 rw [e,e,e]
 unfold ru
 simp only [orM]
 repeat' split
 all_goals first|rfl|omega
theorem Np {w:World} {a b:Clm}:
 Calls Tryz.prog 246 #[.agg (pO a).toArray,.agg (pO b).toArray] w (Ret fun r w'=>r=vi (ru a b)∧Grw w w'):=by
 refine mQ Tryz.func246 rfl Tryz.ntmps246 rfl ?_
 refine aj ?_
 (repeat' (refine ai ?_))
 refine jG rfl fun w1 bx g1=>?_
 replace bx:Bk w1 w.heap.size 198 (pO a):=bx
 skip
 refine jG rfl fun W by_ g2=>?_
 replace by_:Bk W w1.heap.size 198 (pO b):=by_
 replace bx:=bx.chg g2.new fun e=>e
 replace g2:=g1.trans g2
 (repeat' (first|refine aa1 ?_|refine af ?_|refine ah ?_|refine aj ?_))
 refine gu [0,1,2,3,5,6,7,8,10,11,12,13] [4,9,14,15,16,17] rfl (by kernel_rfl) (by simp only [pick,List.getElem?_cons_succ,List.getElem?_cons_zero];rfl) (by simp only [pick,List.getElem?_cons_succ,List.getElem?_cons_zero];rfl) (Grw W) (Grw.drew W) ?_
 (repeat' (refine pK ?_))
 refine aB (u:=.int .u8 a.kind) rfl (fun w' hw=>(bx.chg hw.new fun e=>e).cell (o:=0) rfl) ?_
 (repeat' (refine pK ?_))
 refine aB (u:=.int .u8 b.kind) rfl (fun w' hw=>(by_.chg hw.new fun e=>e).cell (o:=0) rfl) ?_
 (repeat' (refine pK ?_))
 refine aB (u:=w64 a.from_) rfl (fun w' hw=>(bx.chg hw.new fun e=>e).cell (o:=1) rfl) ?_
 (repeat' (refine pK ?_))
 refine aB (u:=w64 b.from_) rfl (fun w' hw=>(by_.chg hw.new fun e=>e).cell (o:=1) rfl) ?_
 (repeat' (refine pK ?_))
 refine aB (u:=w64 a.upto) rfl (fun w' hw=>(bx.chg hw.new fun e=>e).cell (o:=2) rfl) ?_
 (repeat' (refine pK ?_))
 refine aB (u:=w64 b.upto) rfl (fun w' hw=>(by_.chg hw.new fun e=>e).cell (o:=2) rfl) ?_
 (repeat' (refine ak ?_))
 refine dK ?_
 refine ay (xG (a:=a.kind) (b:=b.kind)) rfl ?_
 rintro _ _ ⟨rfl,rfl⟩
 refine af ⟨rfl,Grw.drew W,?_⟩
 refine dK ?_
 refine ay (zQ (a:=a.from_) (b:=b.from_)) rfl ?_
 rintro _ _ ⟨rfl,rfl⟩
 refine af ⟨rfl,Grw.drew W,?_⟩
 refine dK ?_
 refine ay (zQ (a:=a.upto) (b:=b.upto)) rfl ?_
 rintro _ _ ⟨rfl,rfl⟩
 refine af ⟨rfl,Grw.drew W,?_⟩
 refine dK ?_
 refine iU (us:=[xF a.kind b.kind,xF a.from_ b.from_,xF a.upto b.upto]) rfl rfl (by simp) (by simp) fun v o own=>?_
 obtain ⟨va,YC,rfl,_,_⟩:=own.form
 have hgr:Grw W (W.drew.alloc o):=(Grw.drew W).alloc o
 refine af ⟨rfl,hgr,?_⟩
 refine dK ?_
 refine ay (I4 (own.rd (nD _))) rfl ?_
 rintro _ _ ⟨rfl,rfl⟩
 refine af ⟨rfl,hgr,?_⟩
 refine Wch.last ?_
 rw [U6 a b]
 (repeat' (first|refine aa1 ?_|refine af ?_|refine ah ?_|refine ax ?_))
 exact aA rfl rfl ⟨_,rfl,rfl,g2.trans hgr⟩
end Go.Proofs.YtjecgaiaiophpaaGreatDoor
namespace Go.Proofs.YtjecgaiaiophpaaGreatDoor
open Go Wk
open Go.RowKit (Below)
attribute [local irreducible] Go.Calls
def eqF (d:Nat) (xs ys:Array Value):List (Bool×TypeId×Nat)→Sem Bool
 | []=>pure true
 |(g,t,o)::fs=>
  if g=true then do
   let a←part t xs o
   let b←part t ys o
   let r←Op.equalIn d t a b
   if (!r)=true then pure false else eqF d xs ys fs
  else eqF d xs ys fs
theorem Je {d:Nat} {xs ys:Array Value}: ∀ {fs:List Field} {l:List (Bool×TypeId×Nat)},fs.map (fun f=>(decide (f.name≠ "_"),f.type,f.offset))=l→Op.eqFields d xs ys fs=eqF d xs ys l:=by
 intro fs
 induction fs with
 |nil=>rintro l rfl;rfl
 |cons f fs ih=>
  rintro l rfl
  simp only [List.map_cons,Op.eqFields,eqF,decide_eq_true_eq,ih rfl]
theorem KJ {P:Program} {w:World} {d:Nat} {xs ys:Array Value}:(eqF d xs ys []).run P w=.ok true w:=rfl
theorem Jf {P:Program} {w:World} {d:Nat} {xs ys:Array Value} {t:TypeId} {o:Nat} {a b:Value} {r:Bool} {l:List (Bool×TypeId×Nat)} (hp:P.plainKey t=true) (ha:xs[o]? =some a) (hb:ys[o]? =some b) (hr:(Op.equalIn d t a b).run P w=.ok r w):
 (eqF d xs ys ((true,t,o)::l)).run P w=if r=true then (eqF d xs ys l).run P w else .ok false w:=by
 simp only [eqF,if_true,Sem.run_bind,run_part_plain w hp ha,run_part_plain w hp hb,Result.andThen_ok,hr]
 cases r<;>simp [Sem.run_pure]
abbrev GI (x:Clm):Value:=.agg (pO x).toArray
theorem U7 (x y:Clm):decide (x=y)=(decide ((x.kind:Int)=y.kind)&&(decide ((x.from_:Int)=y.from_)&&decide ((x.upto:Int)=y.upto))):=by
 obtain ⟨a,b,c⟩:=x
 obtain ⟨p,q,r⟩:=y
 rw [Bool.eq_iff_iff]
 simp only [decide_eq_true_eq,Clm.mk.injEq,Bool.and_eq_true]
 omega
theorem Ib {x y:Clm} {w:World}:(Op.equalIn 10000 198 (GI x) (GI y)).run Tryz.prog w=.ok (decide (x=y)) w:=by
 rw [run_equalIn_struct w 9999 _ _ _ (by kernel_rfl) (by kernel_rfl),Je (l:=[(true,5,0),(true,196,1),(true,196,2)]) (by kernel_rfl)]
 rw [Jf (by kernel_rfl) rfl rfl (run_equalIn_int w 9998 _ .u8 .u8 _ _ Tryz.underlying5),Jf (by kernel_rfl) rfl rfl (run_equalIn_int w 9998 _ .u64 .u64 _ _ Tryz.underlying196),
  Jf (by kernel_rfl) rfl rfl (run_equalIn_int w 9998 _ .u64 .u64 _ _ Tryz.underlying196),KJ,U7]
 simp only [beq_iff_eq]
 by_cases h1:(x.kind:Int)=y.kind
 ·by_cases h2:(x.from_:Int)=y.from_
  ·by_cases h3:(x.upto:Int)=y.upto
   ·simp [h1,h2,h3]
   ·simp [h1,h2,h3]
  ·simp [h1,h2]
 ·simp [h1]
theorem U8 {x y:Clm} {w:World}:(binOp .eql 198 (GI x) (GI y)).run Tryz.prog w=.ok (.bool (decide (x=y))) w:=by
 rw [run_eql_struct,Ib];rfl
theorem U9 {x y:Clm} {w:World}:(binOp .neq 198 (GI x) (GI y)).run Tryz.prog w=.ok (.bool (!decide (x=y))) w:=by
 rw [run_neq_struct,Ib];rfl
section
variable {n:Nat} {ds:List Deferred} {C:World→Prop} {K:Fr→Prop} {F:Fr} {ops rest:List Oper} {d:Nat} {ty t':TypeId} {pos:String} {aft:Array Edge}
theorem lY {x y:Operand} {p q:Clm} (hx:ev n F x=GI p) (hy:ev n F y=GI q) (c:Wq Tryz.prog n ds C K ops rest (upd F d (.bool (decide (p=q))))):
 Wq Tryz.prog n ds C K ops (⟨some d,.binOp .eql 198 x y t',ty,pos,aft,none⟩::rest) F:=
 Wq.val (fun w hw=>by
  have hg:=run_eqGuard_agg (P:=Tryz.prog) w .eql 198 x y (pO p).toArray (pO q).toArray (by kernel_rfl)
  simp only [execOp,hx,hy,Sem.run_bind,hg,Result.andThen_ok,U8,Sem.run_pure]) c
theorem lZ {x y:Operand} {p q:Clm} (hx:ev n F x=GI p) (hy:ev n F y=GI q) (c:Wq Tryz.prog n ds C K ops rest (upd F d (.bool (!decide (p=q))))):
 Wq Tryz.prog n ds C K ops (⟨some d,.binOp .neq 198 x y t',ty,pos,aft,none⟩::rest) F:=
 Wq.val (fun w hw=>by
  have hg:=run_eqGuard_agg (P:=Tryz.prog) w .neq 198 x y (pO p).toArray (pO q).toArray (by kernel_rfl)
  simp only [execOp,hx,hy,Sem.run_bind,hg,Result.andThen_ok,U9,Sem.run_pure]) c
end
theorem tN:qG (flat pO) 3:=qH _ (fun _=>rfl) fun x c hc=>by simp [pO] at hc;rcases hc with rfl|rfl|rfl<;>rfl
theorem Td (x:Clm): ∀c∈pO x,c.oneCell'=true:=fun c hc=>by simp [pO] at hc;rcases hc with rfl|rfl|rfl<;>rfl
abbrev cfM:=qK.tZ
theorem KL (a b:Clm) (r:List Clm):cfM a (b::r)=if b=a then cfM b r else b::cfM b r:=by
 show qK.tZ a (b::r)=_
 rw [qK.tZ]
theorem OW (a:Clm):cfM a []=[]:=rfl
theorem Jg {L:List Clm} {k:Nat} {x y:Clm} (hk:1≤k) (hy:L[k-1]? =some y) (hx:L[k]? =some x) (h:qK L=L.take k++cfM y (L.drop k)):
 (x≠y→qK L=L.take (k+1)++cfM x (L.drop (k+1)))∧(x=y→qK L=L.take k++cfM x (L.drop (k+1))):=by
 rw [drop_cons hx,KL] at h
 constructor
 ·intro e
  rw [if_neg e] at h
  rw [h,take_snoc hx];simp
 ·intro e
  rw [if_pos e] at h
  exact h
theorem CY {Pb:Nat→Prop} {w:World} {v:Value} {L:List Clm} (own:ny (flat pO) 198 3 Pb NoB w v L) (hl:L.length≤2000000):
 Calls Tryz.prog 247 #[v] w (Ret fun r w'=>ny (flat pO) 198 3 Pb NoB w' r (qK L)∧(∀b,r.ownBlock=some b→v.ownBlock=some b)∧Chg (fun k=>v.ownBlock=some k) w w'):=by
 by_cases hL:L.length<2
 ·obtain ⟨a,cap,rfl,hc1,hc2⟩:=own.form
  refine mQ Tryz.func247 rfl Tryz.ntmps247 rfl ?_
  (repeat' (first|refine aa0 ?_|refine aa1 ?_|refine af ?_|refine aO rfl ?_|refine ah ?_|refine aj ?_|refine ai ?_|refine ax ?_|refine aN ?_|refine aa3 ?_|(refine aa9 (fun _=>?_) (fun _=>?_)<;>(first|(exfalso;omega)|skip))))
  refine aA rfl rfl ⟨_,rfl,?_,fun b hb=>hb,aV _ _⟩
  have:qK L=L:=by
   match L,hL with
   | [],_=>rfl
   | [x],_=>rfl
  rw [this];exact own
 obtain ⟨g,cap,rfl,hgb,hgl,hob⟩:=own.blk (by intro e;subst e;simp at hL)
 obtain ⟨_,_,hfm,hcap,hmax⟩:=own.form
 cases hfm
 simp only [maxLen] at hmax
 obtain ⟨x0,hx0⟩:=nN L (k:=0) (by omega)
 refine mQ Tryz.func247 rfl Tryz.ntmps247 rfl ?_
 (repeat' (first|refine aa0 ?_|refine aa1 ?_|refine af ?_|refine aO rfl ?_|refine ah ?_|refine aj ?_|refine ai ?_|refine Wc.block ?_|refine Wc.skip ?_|refine aa4 ?_|(refine aa9 (fun _=>?_) (fun _=>?_)<;>(first|(exfalso;omega)|skip))))
 refine aU (σ:=Nat) (fun k=>[(0,.slice (some ⟨g,0,none⟩) L.length cap),(3,vi k)]) (fun k W=>1≤k∧k≤L.length∧(∀y,L[k-1]? =some y→qK L=L.take k++cfM y (L.drop k))∧New w W) (fun k=>L.length-k) 1 ⟨rfl,rfl,trivial⟩
  ⟨Nat.le_refl _,by omega,fun y hy=>?_,aV _ _⟩ ?_
 ·rw [hx0] at hy;cases hy
  cases L with
  |nil=>simp at hx0
  |cons a r=>simp at hx0;subst hx0;rfl
 rintro k G W ⟨hk1,hk,hC,nW⟩
 simp only [oO]
 have zo:=own.new (mV pO) nW
 have hrd:=zo.rd tN.mo
 (repeat' (first|refine aa0 ?_|refine aa1 ?_|refine af ?_|refine aO rfl ?_|refine ah ?_|refine aj ?_|refine ai ?_|refine Wc.block ?_|refine Wc.skip ?_|refine aQ ?_|refine ax ?_|refine aS ?_|refine aP ?_|refine aT ?_|refine aa3 ?_|refine aa4 ?_|refine aa9 (fun _=>?_) (fun _=>?_)))
 ·obtain ⟨x,hx⟩:=nN L (k:=k) (by omega)
  obtain ⟨y,hy⟩:=nN L (k:=k-1) (by omega)
  obtain ⟨hne,heq⟩:=Jg hk1 hy hx (hC y hy)
  refine cO rfl (by kernel_rfl) (fun w'=>New W w') (Chg.drew _ _) ?_
  intro w1 n1
  (repeat' (refine aa2 (pF (ak ?_))))
  refine aa2 (dD hrd (fun w' hw=>hw.keep) rfl rfl (by omega) (by rw [Int.toNat_natCast];exact hx) fun b o cs hl hR hat=>ak ?_)
  obtain rfl:cs=pO x:=hR
  skip
  refine aa2 (cu hat rfl rfl (ak ?_))
  clear hat
  (repeat' (first|refine aa2 (pF (ak ?_))|refine aa2 (Wq.sub rfl rfl (by omega) (by omega) (ak ?_))))
  refine aa2 (dD (y:=y) hrd (fun w' hw=>hw.keep) rfl rfl (by omega) (by rw [show ((k:Int)-1).toNat=k-1 by omega];exact hy) fun b o cs hl hR hat=>ak ?_)
  obtain rfl:cs=pO y:=hR
  skip
  refine aa2 (cu hat rfl rfl (ak ?_))
  clear hat
  refine iy rfl (lY (p:=x) (q:=y) rfl rfl (ak ?_))
  (repeat' (refine dm ?_))
  have nw1:=New.trans nW n1
  have xI:=own.new (mV pO) nw1
  by_cases e:x=y
  ·rw [decide_eq_true e]
   replace heq:=heq e
   (repeat' (first|refine aa0 ?_|refine ah ?_|refine aj ?_|refine ai ?_|refine aa3 ?_))
   refine lW rfl rfl (by omega) hcap ?_
   rw [Nat.zero_add]
   (repeat' (first|refine aa1 ?_|refine af ?_|refine ah ?_|refine aj ?_|refine ai ?_|refine Wc.block ?_))
   refine aU (σ:=Nat×Nat×List Clm) (fun q=>[(0,.slice (some ⟨g,0,none⟩) L.length cap),(3,vi q.1),(4,.slice (some ⟨g,k*3,none⟩) (L.length-k) (cap-k)),(5,vi q.2.1)])
    (fun q W'=>1≤q.2.1∧k≤q.1∧q.1+1≤k+q.2.1∧k+q.2.1≤L.length∧q.2.2.length=L.length∧q.2.2.drop q.1=L.drop q.1∧(∀y,L[k+q.2.1-1]? =some y→qK L=q.2.2.take q.1++cfM y (L.drop (k+q.2.1)))∧ny (flat pO) 198 3 Pb NoB W' (.slice (some ⟨g,0,none⟩) L.length cap) q.2.2∧Chg (fun b=>(Value.slice (some (⟨g,0,none⟩:Addr)) L.length cap).ownBlock=some b) w W')
    (fun q=>L.length-k-q.2.1) (k,1,L) ⟨rfl,rfl,rfl,rfl,trivial⟩ ⟨by simp,Nat.le_refl _,by simp,by dsimp only;omega,rfl,rfl,fun z hz=>?_,xI,nw1.any⟩ ?_
   ·dsimp only at hz ⊢
    rw [Nat.add_sub_cancel,hx] at hz;cases hz
    exact heq
   rintro ⟨m,j,D⟩ G2 W2 ⟨hj1,hkm,hmj,hjl,hDl,hDd,hC2,qW,c2⟩
   dsimp only at hj1 hkm hmj hjl hDl hDd hC2 qW c2
   simp only [oO]
   have VS: ∀i,m≤i→D[i]? =L[i]? :=fun i hi=>by
    have:=congrArg (fun q=>q[i-m]?) hDd
    simp only [List.getElem?_drop] at this
    rwa [show m+(i-m)=i by omega] at this
   have hlen2:((L.length-k:Nat):Int)=(L.length:Int)-k:=by omega
   (repeat' (first|refine aa0 ?_|refine af ?_|refine aO rfl ?_|refine ah ?_|refine aj ?_|refine ai ?_|refine Wc.block ?_|refine Wc.skip ?_|refine aQ ?_|refine aS ?_|refine aP ?_|refine aT ?_|refine aa3 ?_|refine aa4 ?_|refine aa9 (fun _=>?_) (fun _=>?_)))
   ·obtain ⟨x2,hx2⟩:=nN L (k:=k+j) (by omega)
    obtain ⟨y2,hy2⟩:=nN L (k:=k+j-1) (by omega)
    have YE: ∀W',New W2 W'→At W' g (k*3+(j:Int).toNat*3) (pO x2):=fun W' hw=>by
     have:=(qW.new (mV pO) hw).at rfl rfl (j:=k+j) (by rw [VS (k+j) (by omega)];exact hx2)
     rwa [show (k+j)*3=k*3+(j:Int).toNat*3 by omega] at this
    have ac9: ∀W',New W2 W'→At W' g (k*3+((j:Int)-1).toNat*3) (pO y2):=fun W' hw=>by
     have:=(qW.new (mV pO) hw).at rfl rfl (j:=k+j-1) (by rw [VS (k+j-1) (by omega)];exact hy2)
     rwa [show (k+j-1)*3=k*3+((j:Int)-1).toNat*3 by omega] at this
    obtain ⟨hne2,heq2⟩:(x2≠y2→qK L=D.take m++x2::cfM x2 (L.drop (k+j+1)))∧(x2=y2→qK L=D.take m++cfM x2 (L.drop (k+j+1))):=by
     have h:=hC2 y2 hy2
     rw [drop_cons hx2,KL] at h
     exact ⟨fun e=>by rw [if_neg e] at h;exact h,fun e=>by rw [if_pos e] at h;exact h⟩
    refine cO rfl (by kernel_rfl) (fun w'=>New W2 w') (Chg.drew _ _) ?_
    intro w3 n3
    (repeat' (refine aa2 (pF (ak ?_))))
    refine aa2 (rY (ak ?_))
    refine aa2 (cu (cs:=pO x2) YE rfl rfl (ak ?_))
    (repeat' (first|refine aa2 (pF (ak ?_))|refine aa2 (Wq.sub rfl rfl (by omega) (by omega) (ak ?_))))
    refine aa2 (rY (ak ?_))
    refine aa2 (cu (cs:=pO y2) ac9 rfl rfl (ak ?_))
    refine iy rfl (lZ (p:=x2) (q:=y2) rfl rfl (ak ?_))
    (repeat' (refine dm ?_))
    have vP:=qW.new (mV pO) n3
    have c3:Chg (fun b=>(Value.slice (some (⟨g,0,none⟩:Addr)) L.length cap).ownBlock=some b) w w3:=Chg.trans c2 n3.any fun _ _ e=>e
    by_cases e2:x2=y2
    ·rw [decide_eq_true e2]
     (repeat' (first|refine aa0 ?_|refine aa1 ?_|refine af ?_|refine ah ?_|refine ai ?_|refine Wc.skip ?_|refine aJ ?_|refine aa4 ?_|refine aa7 ?_))
     refine aK (m,j+1,D) ⟨rfl,rfl,rfl,rfl,trivial⟩ ⟨by dsimp only;omega,hkm,by dsimp only;omega,by dsimp only;omega,hDl,hDd,fun z hz=>?_,vP,c3⟩ (by dsimp only;omega)
     dsimp only at hz ⊢
     rw [show k+(j+1)-1=k+j by omega,hx2] at hz;cases hz
     exact heq2 e2
    ·rw [decide_eq_false e2]
     (repeat' (first|refine aa0 ?_|refine ah ?_|refine aj ?_|refine ai ?_|refine aa3 ?_))
     refine dQ rfl rfl (by omega) (by omega) ?_
     refine bQ (cs:=pO x2) (YE w3 n3) rfl rfl ?_
     refine dQ rfl rfl (by omega) (by omega) ?_
     refine fD (f:=pO) (q:=x2) (j:=m) (sz:=3) (cap:=cap) (fun _=>rfl) Td vP (by rw [hDl]) (by omega) (by show Value.pointer (some ⟨g,0+(m:Int).toNat*3,none⟩)=_;simp) rfl rfl fun w4 o4 c4=>?_
     (repeat' (first|refine aa0 ?_|refine aa1 ?_|refine af ?_|refine ah ?_|refine ai ?_|refine aJ ?_|refine aa7 ?_))
     refine aK (m+1,j+1,D.set m x2) ⟨rfl,rfl,rfl,rfl,trivial⟩ ⟨by dsimp only;omega,by dsimp only;omega,by dsimp only;omega,by dsimp only;omega,by simpa using hDl,?_,fun z hz=>?_,o4,Chg.trans c3 c4 fun _ _ e=>e⟩ (by dsimp only;omega)
     ·dsimp only
      rw [List.drop_set_of_lt (by omega)]
      have:=congrArg (List.drop 1) hDd
      simpa [List.drop_drop] using this
     ·dsimp only at hz ⊢
      rw [show k+(j+1)-1=k+j by omega,hx2] at hz;cases hz
      have hget:(D.set m x2)[m]? =some x2:=by rw [List.getElem?_set,if_pos rfl,if_pos (by omega)]
      rw [take_snoc hget,List.take_set_of_le (Nat.le_refl m),hne2 e2]
      simp
      rw [show k+j+1=k+(j+1) by omega]
   ·have hje:k+j=L.length:=by omega
    obtain ⟨y2,hy2⟩:=nN L (k:=k+j-1) (by omega)
    have h:=hC2 y2 hy2
    rw [hje,List.drop_length,OW,List.append_nil] at h
    refine jl (f:=pO) (i:=m) (cap:=cap) (by simp [Value.cells];exact ⟨rfl,rfl⟩) qW (by rw [hDl]) rfl rfl (by omega) rfl fun u w3 o3 c3=>?_
    (repeat' (first|refine aa0 ?_|refine af ?_|refine ah ?_|refine aj ?_|refine ai ?_))
    refine jm rfl rfl (by omega) ?_
    (repeat' (first|refine aa1 ?_|refine af ?_|refine ah ?_|refine ax ?_|refine aN ?_|refine bf ?_|refine bG ?_))
    refine aA rfl rfl ⟨_,rfl,?_,fun b hb=>hb,Chg.trans c2 c3 fun _ _ e=>e⟩
    rw [h]
    exact o3
  ·rw [decide_eq_false e]
   replace hne:=hne e
   (repeat' (first|refine aa0 ?_|refine aa1 ?_|refine af ?_|refine ah ?_|refine ai ?_|refine Wc.skip ?_|refine aJ ?_|refine aa4 ?_|refine aa7 ?_))
   exact aK (k+1) ⟨rfl,rfl,trivial⟩ ⟨by omega,by omega,fun z hz=>by rw [Nat.add_sub_cancel,hx] at hz;cases hz;exact hne,nw1⟩ (by omega)
 ·obtain rfl:k=L.length:=by omega
  obtain ⟨y,hy⟩:=nN L (k:=L.length-1) (by omega)
  have h1:=hC y hy
  rw [List.take_length,List.drop_length,OW,List.append_nil] at h1
  refine aA rfl rfl ⟨_,rfl,?_,fun b hb=>hb,nW.any⟩
  rw [h1];exact zo
end Go.Proofs.YtjecgaiaiophpaaGreatDoor
namespace Go.Proofs.YtjecgaiaiophpaaGreatDoor.Wk
open Go Go.RowKit
open Go.Sort (Holds putRow flatK size_flatK HoldsK putRowK)
theorem xe {α:Type} {f:α→List Value} {k:Nat} (hk: ∀x,(f x).length=k): ∀(xs:List α) (i j:Nat) (x:α),xs[i]? =some x→j<k→(xs.flatMap f)[i*k+j]? =(f x)[j]?
 | [],i,j,x,h,_=>by simp at h
 |y::r,i,j,x,h,hj=>by
  rw [List.flatMap_cons]
  cases i with
  |zero=>
   simp at h;subst h
   rw [Nat.zero_mul,Nat.zero_add,List.getElem?_append_left (by rw [hk];exact hj)]
  |succ i=>
   rw [List.getElem?_append_right (by rw [hk,Nat.add_mul];omega),hk,show (i+1)*k+j-k=i*k+j by rw [Nat.add_mul];omega]
   exact xe hk r i j x (by simpa using h) hj
theorem uU {α:Type} {f:α→List Value} {k:Nat} (hk: ∀x,(f x).length=k): ∀xs:List α,(xs.flatMap f).length=xs.length*k
 | []=>by simp
 |y::r=>by rw [List.flatMap_cons,List.length_append,hk,uU hk r,List.length_cons,Nat.add_mul];omega
theorem F7 {α:Type} [Inhabited α] {f:α→List Value} {k:Nat} (hk: ∀x,(f x).length=k) (d:List α):(flatK f k d.toArray).toList=d.flatMap f:=by
 apply List.ext_getElem?
 intro t
 by_cases ht:t<d.length*k
 ·have hk0:0<k:=by rcases Nat.eq_zero_or_pos k with e|e;subst e;omega;exact e
  have hi:t / k<d.length:=Nat.div_lt_of_lt_mul (by rw [Nat.mul_comm];exact ht)
  have hj:t % k<k:=Nat.mod_lt _ hk0
  have e:=xe hk d (t / k) (t % k) d[t / k] (List.getElem?_eq_getElem hi) hj
  rw [show t / k*k+t % k=t by rw [Nat.mul_comm];exact Nat.div_add_mod t k] at e
  rw [e,Array.getElem?_toList]
  have hj':t % k<(f d[t / k]).length:=by rw [hk];exact hj
  rw [List.getElem?_eq_getElem hj',Array.getElem?_eq_getElem (by simpa using ht)]
  congr 1
  simp [flatK,hi,hj']
 ·rw [List.getElem?_eq_none (by rw [Array.length_toList,size_flatK];simpa using Nat.not_lt.1 ht),List.getElem?_eq_none (by rw [uU hk];omega)]
theorem Tf {α:Type} {f:α→List Value} {k:Nat} {T:TypeId} {Pb Pe:Nat→Prop} {w:World} {v:Value} {xs:List α} (hk: ∀x,(f x).length=k) (h:ny (flat f) T k Pb Pe w v xs):tV Pb w T k v xs.length (xs.flatMap f):=by
 obtain ⟨cs,hoc,he⟩:=h
 have hl:cs.length=xs.length*k:=hoc.1
 have:cs=xs.flatMap f:=by
  apply List.ext_getElem?
  intro t
  by_cases ht:t<xs.length*k
  ·have hk0:0<k:=by rcases Nat.eq_zero_or_pos k with e|e;subst e;omega;exact e
   have hi:t / k<xs.length:=Nat.div_lt_of_lt_mul (by rw [Nat.mul_comm];exact ht)
   have hj:t % k<k:=Nat.mod_lt _ hk0
   have e:=xe hk xs (t / k) (t % k) xs[t / k] (List.getElem?_eq_getElem hi) hj
   have et:t / k*k+t % k=t:=by rw [Nat.mul_comm];exact Nat.div_add_mod t k
   rw [et] at e
   have h1:(cs.drop (t / k*k)).take k=f xs[t / k]:=he (t / k) xs[t / k] (List.getElem?_eq_getElem hi)
   rw [e, ←h1,List.getElem?_take,if_pos hj,List.getElem?_drop,et]
  ·rw [List.getElem?_eq_none (by omega),List.getElem?_eq_none (by rw [uU hk];omega)]
 rw [←this]
 exact hoc
theorem of_flat {α:Type} {f:α→List Value} {k:Nat} {T:TypeId} {Pb Pe:Nat→Prop} {w:World} {v:Value} {xs:List α} {m:Nat} (hk: ∀x,(f x).length=k) (hm:m=xs.length) (h:tV Pb w T k v m (xs.flatMap f)):ny (flat f) T k Pb Pe w v xs:=by
 subst hm
 refine ⟨_,h,fun i x hx=>?_⟩
 show _=_
 apply List.ext_getElem?
 intro j
 rw [List.getElem?_take]
 by_cases hj:j<k
 ·rw [if_pos hj,List.getElem?_drop,xe hk xs i j x hx hj]
 ·rw [if_neg hj,List.getElem?_eq_none (by rw [hk];omega)]
theorem KN {Pb:Nat→Prop} {w:World} {T:TypeId} {k g m cap:Nat} {cs:List Value} (h:tV Pb w T k (.slice (some ⟨g,0,none⟩) m cap) m cs): ∃cur,Pb g∧w.heap[g]? =some (.cells cur T (0,0))∧m≤cap∧cap≤maxLen∧cur.size=cap*k∧cur.toList.take (m*k)=cs∧cs.length=m*k:=by
 obtain ⟨hl,h0|⟨g',cap',cur,e1,hPg,hheap,h1,h2,h3,h4⟩⟩:=h
 ·cases h0.1
 cases e1
 exact ⟨cur,hPg,hheap,h1,h2,h3,h4,hl⟩
theorem Nq {Pb:Nat→Prop} {w:World} {T:TypeId} {k g m cap:Nat} {cs:List Value} (h:tV Pb w T k (.slice (some ⟨g,0,none⟩) m cap) m cs):Holds id w g 0 cs.toArray:=by
 obtain ⟨cur,_,hheap,h1,_,h3,h4,hl⟩:=KN h
 intro j hj
 have hj':j<cs.length:=by simpa using hj
 have hc:cur[j]? =some cs[j]:=by
  have:(cur.toList.take (m*k))[j]? =cs[j]? :=by rw [h4]
  rw [List.getElem?_take,if_pos (by omega),List.getElem?_eq_getElem hj'] at this
  simpa using this
 refine ⟨?_,?_⟩
 ·simp only [World.cell?,hheap,Nat.zero_add]
  have:cs.toArray[j]! =cs[j]:=by simp [hj']
  rw [this]
  simpa using hc
 ·simp [World.frozen?,hheap]
theorem Ti {Pb:Nat→Prop} {w w':World} {T:TypeId} {k g m cap:Nat} {cs d:List Value} (h:tV Pb w T k (.slice (some ⟨g,0,none⟩) m cap) m cs) (hl:d.length=cs.length)
 (hw: ∀c,w.heap[g]? =some (.cells c T (0,0))→w'.heap[g]? =some (.cells (Sort.putCells id 0 d.toArray c) T (0,0))):tV Pb w' T k (.slice (some ⟨g,0,none⟩) m cap) m d:=by
 obtain ⟨cur,hPg,hheap,h1,h2,h3,h4,hlc⟩:=KN h
 have hle:m*k≤cap*k:=Nat.mul_le_mul_right _ h1
 refine ⟨by omega,.inr ⟨g,cap,_,rfl,hPg,hw _ hheap,h1,h2,by simp [Sort.putCells,h3],?_⟩⟩
 apply List.ext_getElem?
 intro j
 rw [List.getElem?_take]
 by_cases hj:j<m*k
 ·have hjc:j<cur.size:=by omega
  rw [if_pos hj,Array.getElem?_toList,Sort.putCells,Array.getElem?_mapIdx,Array.getElem?_eq_getElem hjc,Option.map_some,if_pos ⟨Nat.zero_le _,by simp;omega⟩]
  have hjD:j<d.length:=by omega
  rw [List.getElem?_eq_getElem hjD]
  simp [hjD]
 ·rw [if_neg hj,List.getElem?_eq_none (by omega)]
end Go.Proofs.YtjecgaiaiophpaaGreatDoor.Wk
namespace Go.Proofs
open Go.Shelf
def l7:Go.Shelf.Ren:=⟨fun|6=>245|15=>105|14=>271|28=>161|29=>162|20=>283|21=>284|22=>285|23=>286|24=>287|25=>288|26=>289|27=>290|46=>301|47=>206|48=>207|49=>302|50=>303|57=>317|n=>n,fun|22=>301|24=>198|25=>346|3=>3|39=>209|0=>0|53=>166|55=>196|4=>4|46=>263|45=>262|50=>173|5=>5|9=>9|66=>307|70=>311|76=>348|77=>349|n=>n,fun|n=>n⟩
theorem jH:Go.Proofs.SlLaysF0.n6 Tryz.prog l7:={
 mixed:=by kernel_rfl
 f6:=⟨Tryz.f245.name,by decide,Tryz.func245.trans (congrArg some (by kernel_rfl))⟩
 f14:=⟨Tryz.f271.name,by decide,Tryz.func271.trans (congrArg some (by kernel_rfl))⟩
 f15:=Tryz.func105.trans (congrArg some (by kernel_rfl))
 f20:=⟨Tryz.f283.name,by decide,Tryz.func283.trans (congrArg some (by kernel_rfl))⟩
 f21:=⟨Tryz.f284.name,by decide,Tryz.func284.trans (congrArg some (by kernel_rfl))⟩
 f22:=⟨Tryz.f285.name,by decide,Tryz.func285.trans (congrArg some (by kernel_rfl))⟩
 f23:=⟨Tryz.f286.name,by decide,Tryz.func286.trans (congrArg some (by kernel_rfl))⟩
 f24:=⟨Tryz.f287.name,by decide,Tryz.func287.trans (congrArg some (by kernel_rfl))⟩
 f25:=⟨Tryz.f288.name,by decide,Tryz.func288.trans (congrArg some (by kernel_rfl))⟩
 f26:=⟨Tryz.f289.name,by decide,Tryz.func289.trans (congrArg some (by kernel_rfl))⟩
 f27:=⟨Tryz.f290.name,by decide,Tryz.func290.trans (congrArg some (by kernel_rfl))⟩
 f28:=Tryz.func161.trans (congrArg some (by kernel_rfl))
 f29:=Tryz.func162.trans (congrArg some (by kernel_rfl))
 f46:=⟨Tryz.f301.name,by decide,Tryz.func301.trans (congrArg some (by kernel_rfl))⟩
 f47:=Tryz.func206.trans (congrArg some (by kernel_rfl))
 f48:=Tryz.func207.trans (congrArg some (by kernel_rfl))
 f49:=⟨Tryz.f302.name,by decide,Tryz.func302.trans (congrArg some (by kernel_rfl))⟩
 f50:=⟨Tryz.f303.name,by decide,Tryz.func303.trans (congrArg some (by kernel_rfl))⟩
 f57:=⟨Tryz.f317.name,by decide,Tryz.func317.trans (congrArg some (by kernel_rfl))⟩
 t0:=Tryz.underlying0
 a0:=Tryz.isAgg0
 z0:=Tryz.sizeOf0
 v0:=Tryz.zeroValue0
 t3:=Tryz.underlying3
 a3:=Tryz.isAgg3
 z3:=Tryz.sizeOf3
 v3:=Tryz.zeroValue3
 t4:=Tryz.underlying4
 a4:=Tryz.isAgg4
 z4:=Tryz.sizeOf4
 v4:=Tryz.zeroValue4
 t5:=Tryz.underlying5
 a5:=Tryz.isAgg5
 z5:=Tryz.sizeOf5
 v5:=Tryz.zeroValue5
 t9:=Tryz.underlying9
 a9:=Tryz.isAgg9
 z9:=Tryz.sizeOf9
 v9:=Tryz.zeroValue9
 t22:=Tryz.underlying301
 a22:=Tryz.isAgg301
 z22:=Tryz.sizeOf301
 v22:=Tryz.zeroValue301
 t25:=Tryz.underlying346
 a25:=Tryz.isAgg346
 z25:=Tryz.sizeOf346
 v25:=Tryz.zeroValue346
 t39:=Tryz.underlying209
 a39:=Tryz.isAgg209
 z39:=Tryz.sizeOf209
 v39:=Tryz.zeroValue209
 t45:=Tryz.underlying262
 a45:=Tryz.isAgg262
 z45:=Tryz.sizeOf262
 v45:=Tryz.zeroValue262
 t46:=Tryz.underlying263
 a46:=Tryz.isAgg263
 z46:=Tryz.sizeOf263
 v46:=Tryz.zeroValue263
 t50:=Tryz.underlying173
 a50:=Tryz.isAgg173
 z50:=Tryz.sizeOf173
 v50:=Tryz.zeroValue173
 t53:=Tryz.underlying166
 a53:=Tryz.isAgg166
 z53:=Tryz.sizeOf166
 v53:=Tryz.zeroValue166
 t55:=Tryz.underlying196
 a55:=Tryz.isAgg196
 z55:=Tryz.sizeOf196
 v55:=Tryz.zeroValue196
 t66:=Tryz.underlying307
 a66:=Tryz.isAgg307
 z66:=Tryz.sizeOf307
 v66:=Tryz.zeroValue307
 t70:=Tryz.underlying311
 a70:=Tryz.isAgg311
 z70:=Tryz.sizeOf311
 v70:=Tryz.zeroValue311
 t76:=Tryz.underlying348
 a76:=Tryz.isAgg348
 z76:=Tryz.sizeOf348
 v76:=Tryz.zeroValue348
 t77:=Tryz.underlying349
 a77:=Tryz.isAgg349
 z77:=Tryz.sizeOf349
 v77:=Tryz.zeroValue349}
end Go.Proofs
namespace Go.Proofs.YtjecgaiaiophpaaGreatDoor
open Go Wk
open Go.RowKit (Below)
open Go.Sort (SWO Holds HoldsK)
attribute [local irreducible] Go.Calls
theorem Ak (a b:Clm):ru a b<0↔a.kind<b.kind∨(a.kind=b.kind∧(a.from_<b.from_∨(a.from_=b.from_∧a.upto<b.upto))):=by
 unfold ru
 repeat' split
 all_goals omega
theorem Nr:SWO fun a b=>decide (ru a b<0):=by
 refine ⟨fun x=>?_,fun x y z h1 h2=>?_,fun x y z h1 h2=>?_⟩
 ·rw [decide_eq_false_iff_not,Ak];omega
 ·rw [decide_eq_true_eq,Ak] at*;omega
 ·rw [decide_eq_false_iff_not,Ak] at*;omega
theorem wH (x:Clm):(pO x).length=3:=rfl
theorem Tj (x:Clm): ∀v∈pO x,v.oneCell'=true:=fun v hv=>by
 simp [pO] at hv
 rcases hv with rfl|rfl|rfl<;>rfl
section
variable {α:Type} [Inhabited α] {enc:α→List Value} {k:Nat} {w:World} {blk n:Nat} {d:Array α} {os:Array Obj}
theorem F8:Chg (fun j=>j=blk) w (sortWorldK enc k w blk 0 n d os):=
 ⟨rfl,rfl,rfl,by simp [sortWorldK,Sort.putRowK,Sort.grow,Sort.putRow,Sort.mapBlock,Sort.ahead],fun j hj hn=>by
   have: ¬blk=j:=fun e=>hn e.symm
   simp only [sortWorldK,Sort.putRowK,Sort.grow,Sort.putRow,Sort.mapBlock,Sort.ahead]
   rw [Array.getElem?_append_left (by simpa using hj),Array.getElem?_modify,if_neg this]⟩
theorem EK {cs:Array Value} {T:TypeId} (h:w.heap[blk]? =some (.cells cs T (0,0))):(sortWorldK enc k w blk 0 n d os).heap[blk]? =some (.cells (Sort.putCells id 0 (Sort.flatK enc k d) cs) T (0,0)):=by
 have hb:=(Array.getElem?_eq_some_iff.1 h).1
 simp only [sortWorldK,Sort.putRowK,Sort.grow,Sort.putRow,Sort.mapBlock,Sort.ahead]
 rw [Array.getElem?_append_left (by simpa using hb),Array.getElem?_modify,if_pos rfl,h]
 rfl
end
theorem F9 {Pb:Nat→Prop} {w:World} {L:List Clm} {v:Value} (own:ny (flat pO) 198 3 Pb NoB w v L) (hlen:L.length≤2000000):
 Calls Tryz.prog 245 #[v,.func (.func 246) #[] #[]] w (Ret fun _ w'=>ny (flat pO) 198 3 Pb NoB w' v (L.mergeSort fun x y=> !decide (ru y x<0))∧Chg (fun k=>v.ownBlock=some k) w w'):=by
 by_cases hL:L=[]
 ·subst hL
  obtain ⟨a,cap,rfl,_,_⟩:=own.form
  refine (AnyF.slices_SortFunc_none jH a cap _ w).mono ?_
  rintro _ w' ⟨rfl,rfl⟩
  exact ⟨_,rfl,by simpa using own,aV _ _⟩
 obtain ⟨gb,cap,rfl,_,hgb,_⟩:=own.blk hL
 have hoc:=Tf wH own
 have hH:HoldsK pO 3 w gb 0 L.toArray:=by
  show Holds id w gb 0 (Sort.flatK pO 3 L.toArray)
  have e:Sort.flatK pO 3 L.toArray=(L.flatMap pO).toArray:=by
   rw [←F7 wH L]
  rw [e]
  exact Nq hoc
 have hcmp:CmpLays Tryz.prog 246 #[] pO 3 ru gb 0 L.toArray.size w:=by
  intro m os dk hs x y
  refine (Np (a:=x) (b:=y)).mono ?_
  rintro _ w' ⟨_,rfl,rfl,q,os',rfl⟩
  exact ⟨rfl,q,os',rfl⟩
 have hel:ElT Tryz.prog 198 3 _ true _:=inferInstance
 have h:=AnyQ.slices_SortFunc_total jH 3 (fun w=>hel.isAgg w) (fun w=>hel.sizeOf w) pO wH Tj ru Nr 246 #[] gb 0 cap L.toArray w (fun args w=>rD (inferInstance:mX Tryz.prog 246) args) hcmp hH hgb (by simp;omega) (fun x y h1 h2=> ?hT)
 case hT=>
  have e1: ¬ru x y<0:=of_decide_eq_false h1
  have e2: ¬ru y x<0:=of_decide_eq_false h2
  rw [Ak] at e1 e2
  cases x;cases y
  simp only at e1 e2
  have k1: ‹_› = ‹_› :=rfl
  simp only [Clm.mk.injEq]
  omega
 refine h.mono ?_
 rintro _ w' ⟨rfl,n,os,rfl⟩
 refine ⟨_,rfl,?_,F8.mono fun k _ e=>by rw [e];rfl⟩
 have hl:(L.mergeSort fun x y=> !decide (ru y x<0)).length=L.length:=List.length_mergeSort _
 have e:((L.mergeSort fun x y=> !decide (ru y x<0)).flatMap pO)=(Sort.flatK pO 3 (L.mergeSort fun x y=> !decide (ru y x<0)).toArray).toList:=(F7 wH _).symm
 refine of_flat wH hl.symm (Ti hoc (by rw [uU wH,uU wH,hl]) fun c hc=>?_)
 have:=EK (enc:=pO) (k:=3) (n:=n) (d:=(L.mergeSort fun x y=> !decide (ru y x<0)).toArray) (os:=os) hc
 rw [e]
 have e2:(Sort.flatK pO 3 (L.mergeSort fun x y=> !decide (ru y x<0)).toArray).toList.toArray=Sort.flatK pO 3 (L.mergeSort fun x y=> !decide (ru y x<0)).toArray:=by simp
 rw [e2]
 exact this
end Go.Proofs.YtjecgaiaiophpaaGreatDoor
namespace Go.Proofs.YtjecgaiaiophpaaGreatDoor
open Go Wk
open Go.RowKit (Below)
attribute [local irreducible] Go.Calls
theorem OX {v:List UInt8}: ∀x∈nums 4 v, ∃n:Nat,x=(n:Int)∧n<4294967296:=by
 intro x hx
 unfold nums at hx
 split at hx
 ·unfold pieces at hx
  obtain ⟨i,hi,rfl⟩:=List.mem_map.1 hx
  refine ⟨_,rfl,?_⟩
  have h1:=xP ((v.drop (4*i)).take 4)
  have h2:256^((v.drop (4*i)).take 4).length≤256^4:=Fz _ _ (by simp only [List.length_take];omega)
  have h3:(256:Nat)^4=4294967296:=by decide
  omega
 ·simp at hx
theorem CZ (v:List UInt8):(nums 4 v).length≤v.length:=by
 unfold nums
 split
 ·rw [xC];omega
 ·simp
theorem Gf (k f s:Nat):(yR k f s).length≤1:=by unfold yR;split<;>simp
theorem uP {α:Type} {f:α→List Clm} (h: ∀x,(f x).length≤1): ∀l:List α,(l.flatMap f).length≤l.length
 | []=>by simp
 |x::r=>by
  have:=uP h r
  have:=h x
  simp only [List.flatMap_cons,List.length_append,List.length_cons];omega
theorem KO {Pb:Nat→Prop} {w:World} {bv:Nat} {vl:Value} {L:List Clm} {kind fr size:Nat} (hb:Bk w bv 301 [vl]) (own:ny (flat pO) 198 3 Pb NoB w vl L) (hs: ∀k,vl.ownBlock=some k→k≠bv) (hl:L.length≤100000) (hf:fr<18446744073709551616) (hz:size<18446744073709551616):
 Calls Tryz.prog 242 #[.int .u8 kind,w64 fr,w64 size,.pointer (some ⟨bv,0,none⟩)] w (Ret fun _ w'=>(∃vl',Bk w' bv 301 [vl']∧ny (flat pO) 198 3 (fun b=>Pb b∨w.heap.size≤b) NoB w' vl' (L++yR kind fr size)∧(∀k,vl'.ownBlock=some k→k≠bv))∧Chg (fun k=>k=bv∨vl.ownBlock=some k) w w'):=by
 have hbl:=hb.lt
 obtain ⟨a,cap,rfl,hc1,hc2⟩:=own.form
 refine mQ Tryz.func242 rfl Tryz.ntmps242 rfl ?_
 (repeat' (first|refine aa0 ?_|refine af ?_|refine ah ?_|refine aj ?_|refine ai ?_|refine Wc.skip ?_|refine aa3 ?_|refine aa4 ?_|refine bM rfl rfl (fun _=>?_) (fun _=>?_)))
 ·refine au (u:=.slice a L.length cap) rfl (hb.cell (o:=0) rfl) ?_
  (repeat' (refine aa0 ?_))
  refine fJ rfl rfl ?_
  rw [show ((size:Int)-1)=(size:Int)-((1:Nat):Int) from rfl,yV (by omega) hz]
  refine iM rfl rfl ?_
  rw [show ((fr:Int)+((size-1:Nat):Int))=((fr+(size-1):Nat):Int) by omega,OT]
  refine bZ (ps:=[(0,.tmp 10),(1,.tmp 11),(2,.tmp 15)]) (parts:=[(0,.int .u8 kind),(1,w64 fr),(2,w64 ((fr+(size-1)) % 2^64))]) rfl rfl (by simp [Value.cells]) ?_
  refine dF (R:=flat pO) (y:=⟨kind,fr,(fr+(size-1)) % 2^64⟩) tN own rfl rfl rfl rfl rfl (by omega) (by omega) (by simp only [maxLen];omega) (by omega) rfl rfl fun v2 w2 p qW c2 lie=>?_
  have hb2:=hb.chg c2 (fun e=>hs bv e rfl)
  refine bH (u:=v2) hb2 rfl (show (0:Nat)<1 by omega) rfl (by obtain ⟨_,_,rfl,_⟩:=qW.form;rfl) fun w3 b3 c3=>?_
  (repeat' (refine af ?_))
  have hs2: ∀k,v2.ownBlock=some k→k≠bv:=fun k hk e=>by
   rcases lie with e2|e2
   ·exact hs k (e2▸hk) e
   ·have:=e2 k hk;omega
  refine dI rfl ⟨_,rfl,⟨v2,b3,?_,hs2⟩,Chg.trans (c2.mono fun k _ e=>.inr e) c3 fun k _ e=>.inl e⟩
  have e:yR kind fr size=[⟨kind,fr,(fr+(size-1)) % 2^64⟩]:=by unfold yR;rw [if_pos (by omega)]
  rw [e]
  exact qW.chg (mV pO) c3 fun k hk e=>hs2 k hk e
 ·have e:yR kind fr size=[]:=by unfold yR;rw [if_neg (by omega)]
  rw [e,List.append_nil]
  exact dI rfl ⟨_,rfl,⟨_,hb,own.mono tN.mo (fun b _ e=>.inl e) (fun _ _ e=>e),hs⟩,aV _ _⟩
def WW (w w':World) (r:Value) (o:Option (List Clm)):Prop:= ∃v e,r=.tuple #[v,vi e]∧match o with
 |none=>e≠0
 |some l=>e=0∧ny (flat pO) 198 3 (fun b=>w.heap.size≤b) NoB w' v l
def Gg:Nm:=[112,105,110,115]
def BA:Nm:=[108,105,110,101,115]
def nmK:Nat→Nm
 |1=>Gg
 |2=>BA
 |_=>[]
def C9 (t:List Nd) (i:Nat):Nat→Option (List Clm)
 |0=>some []
 |k+1=>match C9 t i k with
  |none=>none
  |some a=>match uF t i k (nmK k) with
   |none=>none
   |some b=>some (a++b)
theorem Ns {t:List Nd} (ht:nV t=true) {i:Nat} (hi:i<t.length):sZ t i []=none:=by
 obtain ⟨x,hx⟩:=nN t hi
 unfold sZ
 rw [xE hx,Sl]
 intro p hp e
 have hpr:=(qA ht hx).pr
 unfold yM at hpr
 rw [Bool.and_eq_true] at hpr
 have:=(Ef (zJ x.oJ [] (by simpa using hpr.2) p hp).1).1
 exact this e
theorem Va {t:List Nd} (ht:nV t=true) {i:Nat} (hi:i<t.length):UX t i=match C9 t i 3 with
 |none=>none
 |some l=>if i=0 then some l else match uq t i with
  |none=>none
  |some ws=>some (l++ws.flatMap fun w=>yR 3 w.1 w.2):=by
 have e0:uF t i 0 (nmK 0)=some []:=by unfold uF;rw [show nmK 0=[] from rfl,Ns ht hi]
 simp only [C9,e0,List.append_nil]
 unfold UX
 rw [show uF t i 1 [112,105,110,115]=uF t i 1 (nmK 1) from rfl,show uF t i 2 [108,105,110,101,115]=uF t i 2 (nmK 2) from rfl]
 cases uF t i 1 (nmK 1) with
 |none=>rfl
 |some a=>
  cases uF t i 2 (nmK 2) with
  |none=>rfl
  |some b=>
   simp only [List.nil_append]
   by_cases h0:i=0
   ·simp [h0]
   ·simp only [if_neg h0]
    rfl
theorem Nu {t:List Nd} {i kind:Nat} {nm v:Nm} (h:sZ t i nm=some v) (hf:form 4 v=0):uF t i kind nm=some ((nums 4 v).flatMap fun n=>yR kind n.toNat 1):=by
 unfold uF;rw [h];dsimp only;rw [if_pos hf]
theorem OY (v:List UInt8):form 4 v=0∨form 4 v=4:=by unfold form;split<;>simp
theorem KP {t:List Nd} (ht:nV t=true) {i:Nat} (hi:i<t.length): ∀(k:Nat) (l:List Clm),C9 t i k=some l→l.length≤1024*k
 |0,l,h=>by cases h;simp
 |k+1,l,h=>by
  rw [C9] at h
  split at h
  ·cases h
  ·rename_i a ha
   split at h
   ·cases h
   ·rename_i b hb
    cases h
    have h1:=KP ht hi k a ha
    have h2:b.length≤1024:=by
     unfold uF at hb
     split at hb
     ·cases hb;simp
     ·rename_i v hv
      split at hb
      ·cases hb
       have g1:=uP (f:=fun n:Int=>yR k n.toNat 1) (fun _=>Gf _ _ _) (nums 4 v)
       have g2:=CZ v
       have g3:=yT ht hi hv
       omega
      ·cases hb
    simp only [List.length_append];omega
theorem Ep {α β:Type} {f:α→Option β}: ∀ {l:List α} {r:List β},tK f l=some r→ ∀y∈r, ∃x∈l,f x=some y
 | [],r,h,y,hy=>by cases h;simp at hy
 |z::l,r,h,y,hy=>by
  rw [tK] at h
  cases hz:f z with
  |none=>rw [hz] at h;cases h
  |some q=>
   rw [hz] at h
   dsimp only at h
   obtain ⟨r',h1,rfl⟩:=Option.map_eq_some_iff.1 h
   rcases List.mem_cons.1 hy with rfl|hy
   ·exact ⟨z,by simp,hz⟩
   ·obtain ⟨x,hx,e⟩:=Ep h1 y hy
    exact ⟨x,List.mem_cons_of_mem _ hx,e⟩
theorem KQ {t:List Nd} {i:Nat} {x:Win} {b:Nat} (hx:x.1<18446744073709551616) (h:xU t i x=some b):b<18446744073709551616:=by
 unfold xU at h
 split at h
 ·cases h
 ·rename_i ms same hm
  clear hm
  split at h
  ·cases h;exact hx
  ·revert h
   induction ms with
   |nil=>intro h;cases h
   |cons m r ih=>
    intro h
    rw [wW] at h
    split at h
    ·cases h;exact Nat.mod_lt _ (by decide)
    ·exact ih h
theorem Es {t:List Nd}: ∀ {l:List Nat} {x:Win} {b:Nat},x.1<18446744073709551616→qZ t l x=some b→b<18446744073709551616
 | [],x,b,hx,h=>by cases h;exact hx
 |i::r,x,b,hx,h=>by
  rw [qZ] at h
  split at h
  ·cases h
  ·rename_i c hc
   exact Es (x:=(c,x.2)) (KQ hx hc) h
theorem KR {t:List Nd} {i:Nat} {ws:List Win} (hok:nV t=true) (hi:i<t.length) (h:uq t i=some ws):ws.length≤1024∧ ∀x∈ws,x.1<18446744073709551616∧x.2<18446744073709551616:=by
 unfold uq at h
 split at h
 ·cases h
 ·rename_i rs hrs
  obtain ⟨h1,h2⟩:=OV hok hi hrs
  obtain ⟨e1,_⟩:=CX h
  refine ⟨by omega,fun y hy=>?_⟩
  obtain ⟨x,hx,e⟩:=Ep h y hy
  obtain ⟨b,hb,rfl⟩:=Option.map_eq_some_iff.1 e
  exact ⟨Es (h2 x hx).1 hb,(h2 x hx).2⟩
theorem Vb {Pb:Nat→Prop} {w:World} {v:Value} {l:List Nd} {i:Nat} (h:RdS rNd 3 Pb w v l) (hok:nV l=true) (hi:i<l.length):
 Calls Tryz.prog 201 #[v,vi i] w (Ret fun r w'=>WW w w' r (ofM l i)∧New w w'):=by
 obtain ⟨a,cap,rfl,hc1,hc2⟩:=h.form
 have hlen:=oN hok
 replace h:=h.mono (Pb':=fun k=>k<w.heap.size) zH fun k hk _=>hk
 unfold ofM
 rw [Va hok hi]
 refine mQ Tryz.func201 rfl Tryz.ntmps201 rfl ?_
 (repeat' (first|refine aa0 ?_|refine aa1 ?_|refine af ?_|refine ah ?_|refine aj ?_|refine ai ?_))
 refine ay (Hz (i:=i) h hok hi) rfl ?_
 rintro _ w1 ⟨rfl,n1⟩
 (repeat' (first|refine aa0 ?_|refine aa1 ?_|refine af ?_|refine aa8 ?_|refine ah ?_|refine aj ?_|refine ai ?_|refine Wc.skip ?_|refine aa4 ?_|(refine pV (fun _=>?_) (fun _=>?_)<;>(first|(exfalso;omega)|skip))))
 refine Wl.alloc fun w2 b2 n2 s2=>?_
 replace b2:Bk w2 w1.heap.size 301 [.slice none 0 0]:=b2
 generalize hbv:w1.heap.size=bv at b2 s2
 have hz1:=n1.size
 have n02:=New.trans n1 n2
 (repeat' (first|refine af ?_|refine ah ?_|refine aj ?_|refine ai ?_))
 refine dL (f1:=[]) (c1:=[.pointer (some ⟨bv,0,none⟩)]) rfl rfl ?_
 (repeat' (first|refine aa1 ?_|refine af ?_|refine ah ?_|refine aj ?_|refine ai ?_))
 refine gq (cs:=[vs [],vs Gg,vs BA]) (parts:=[(1,vs Gg),(2,vs BA)]) rfl rfl (by simp [Value.cells]) rfl ?_
 (repeat' (first|refine aa0 ?_|refine af ?_|refine ah ?_|refine Wc.block ?_))
 refine aU (σ:=Nat×Value×List Clm) (fun q=>[(0,.slice a l.length cap),(1,vi i),(8,.pointer (some ⟨bv,0,none⟩)),(9,.func (.func 242) #[] #[.pointer (some ⟨bv,0,none⟩)]),(31,.agg #[vs [],vs Gg,vs BA]),(32,vi q.1)])
  (fun q W=>q.1≤3∧C9 l i q.1=some q.2.2∧Bk W bv 301 [q.2.1]∧ny (flat pO) 198 3 (fun b=>bv<b) NoB W q.2.1 q.2.2∧New w W) (fun q=>3-q.1) (0,.slice none 0 0,[]) ⟨rfl,rfl,rfl,rfl,rfl,rfl,trivial⟩ ⟨by decide,rfl,b2,bK,n02⟩ ?_
 rintro ⟨k,vl,L⟩ G W ⟨hk,hR,bW,own,nW⟩
 dsimp only at hk hR bW own nW
 simp only [oO]
 have hLl:=KP hok hi k L hR
 have hzW:=nW.size
 have hbW:=bW.lt
 (repeat' (first|refine aa0 ?_|refine af ?_|refine ah ?_|refine aj ?_|refine ai ?_|refine Wc.block ?_|refine Wc.skip ?_|refine aQ ?_|refine aS ?_|refine aP ?_|refine aT ?_|refine aa3 ?_|refine aa4 ?_|refine aa9 (fun _=>?_) (fun _=>?_)|refine bM rfl rfl (fun _=>?_) (fun _=>?_)))
 ·have hnk:([vs [],vs Gg,vs BA]:List Value)[((k:Int)).toNat]? =some (vs (nmK k)):=by
   have:k=0∨k=1∨k=2:=by omega
   rcases this with rfl|rfl|rfl<;>rfl
  refine jk (cs:=[vs [],vs Gg,vs BA]) rfl rfl (by omega) (by omega) hnk ?_
  (repeat' (first|refine aa0 ?_|refine aa1 ?_|refine af ?_|refine ah ?_|refine aj ?_|refine ai ?_))
  refine ay (MR (i:=i) (nm:=nmK k) (h.keep nO nW.keep) hok hi) rfl ?_
  rintro _ w3 ⟨rfl,n3⟩
  have n03:=New.trans nW n3
  have b3:=bW.chg n3 fun e=>e
  have vP:=own.new (mV pO) n3
  cases hv:sZ l i (nmK k) with
  |none=>
   have hR2:C9 l i (k+1)=some L:=by
    rw [C9,hR];dsimp only
    rw [show uF l i k (nmK k)=some [] by unfold uF;rw [hv]]
    simp
   dsimp only [WN]
   (repeat' (first|refine aa0 ?_|refine aa1 ?_|refine af ?_|refine aa8 ?_|refine ah ?_|refine aj ?_|refine ai ?_|refine aQ ?_|refine aS ?_|refine aP ?_|refine aa3 ?_|refine aa7 ?_|(refine pV (fun _=>?_) (fun _=>?_)<;>(first|(exfalso;omega)|skip))))
   exact aK (k+1,vl,L) ⟨rfl,rfl,rfl,rfl,rfl,rfl,trivial⟩ ⟨by dsimp only;omega,hR2,b3,vP,n03⟩ (by dsimp only;omega)
  |some txt=>
   have htl:=yT hok hi hv
   dsimp only [WN]
   (repeat' (first|refine aa0 ?_|refine aa1 ?_|refine af ?_|refine aa8 ?_|refine ah ?_|refine aj ?_|refine ai ?_|refine Wc.skip ?_|refine aa4 ?_|(refine pV (fun _=>?_) (fun _=>?_)<;>(first|(exfalso;omega)|skip))))
   refine ay (Bf (l:=txt) (by omega)) rfl ?_
   rintro _ w4 ⟨nv,rfl,DR,n4⟩
   have n04:=New.trans n03 n4
   have b4:=b3.chg n4 fun e=>e
   have own4:=vP.new (mV pO) n4
   rcases OY txt with hf|hf
   ·rw [hf]
    obtain ⟨na,nc,rfl,_,_⟩:=DR.form
    have hN:=Nu (kind:=k) hv hf
    have hnl:=CZ txt
    have hz3:=n03.size
    have hz4:=n4.size
    generalize WX:(Value.slice na (nums 4 txt).length nc)=nv at DR
    have Tm:ny (Wk.one yQ) 166 1 (fun b=>nv.ownBlock=some b) NoB w4 nv (nums 4 txt):=DR.AB fun b hb _=>hb
    have hsep: ∀b,nv.ownBlock=some b→bv<b∧vl.ownBlock≠some b:=fun b hb=>by
     have h1:=(DR.lt hb).1
     have h2:=n3.size
     refine ⟨by omega,fun e=>?_⟩
     have:=(vP.lt e).2
     omega
    subst WX
    (repeat' (first|refine aa0 ?_|refine aa1 ?_|refine af ?_|refine aa8 ?_|refine aO rfl ?_|refine ah ?_|refine aj ?_|refine ai ?_|refine Wc.block ?_|refine Wc.skip ?_|refine aa4 ?_|(refine pV (fun _=>?_) (fun _=>?_)<;>(first|(exfalso;omega)|skip))))
    refine aU (σ:=Nat×Value×List Clm) (fun q=>[(0,.slice a l.length cap),(1,vi i),(8,.pointer (some ⟨bv,0,none⟩)),(9,.func (.func 242) #[] #[.pointer (some ⟨bv,0,none⟩)]),(10,vi k),(31,.agg #[vs [],vs Gg,vs BA]),(32,vi k),(52,.slice na (nums 4 txt).length nc),(53,vi (nums 4 txt).length),(54,vi q.1)])
     (fun q W=>q.1≤(nums 4 txt).length∧q.2.2=L++((nums 4 txt).take q.1).flatMap (fun n=>yR k n.toNat 1)∧Bk W bv 301 [q.2.1]∧ny (flat pO) 198 3 (fun b=>bv<b∧(Value.slice na (nums 4 txt).length nc).ownBlock≠some b) NoB W q.2.1 q.2.2∧ny (Wk.one yQ) 166 1 (fun b=>(Value.slice na (nums 4 txt).length nc).ownBlock=some b) NoB W (.slice na (nums 4 txt).length nc) (nums 4 txt)∧New w W) (fun q=>(nums 4 txt).length-q.1) (0,vl,L) ⟨rfl,rfl,rfl,rfl,rfl,rfl,rfl,rfl,rfl,rfl,trivial⟩
     ⟨Nat.zero_le _,by simp,b4,own4.AB fun b hb e=>⟨e,fun e2=>(hsep b e2).2 hb⟩,Tm,n04⟩ ?_
    rintro ⟨j,vl2,L2⟩ G2 W2 ⟨hj,hL2,bW2,qW,oN2,nW2⟩
    dsimp only at hj hL2 bW2 qW oN2 nW2
    simp only [oO]
    (repeat' (first|refine aa0 ?_|refine af ?_|refine ah ?_|refine aj ?_|refine ai ?_|refine Wc.block ?_|refine Wc.skip ?_|refine aQ ?_|refine aS ?_|refine aJ ?_|refine aP ?_|refine aT ?_|refine aa3 ?_|refine aa4 ?_|refine aa7 ?_|refine aa9 (fun _=>?_) (fun _=>?_)))
    ·obtain ⟨x,hx⟩:=nN (nums 4 txt) (k:=j) (by omega)
     obtain ⟨n,rfl,hn⟩:=OX x (List.mem_of_getElem? hx)
     refine bY (oN2.rd (nD _)) rfl rfl (by omega) hx fun b o hcell=>?_
     refine au (u:=.int .u32 n) rfl hcell ?_
     (repeat' (first|refine aa0 ?_|refine aa1 ?_|refine af ?_|refine ah ?_|refine ai ?_|refine dP rfl ?_))
     have Vd:L2.length≤100000:=by
      have g1:=uP (f:=fun n:Int=>yR k n.toNat 1) (fun _=>Gf _ _ _) ((nums 4 txt).take j)
      rw [hL2,List.length_append]
      have:((nums 4 txt).take j).length≤(nums 4 txt).length:=by simp only [List.length_take];omega
      omega
     rw [show IntKind.u8.wrap (k:Int)=(k:Int) from w8 (by omega),show IntKind.u64.wrap (n:Int)=(n:Int) from OE (by omega)]
     refine dG (dst:=some 63) rfl (KO (kind:=k) (fr:=n) (size:=1) bW2 qW (fun k2 hk2=>by have:=(qW.lt hk2).1.1;omega) Vd (by omega) (by decide)) rfl ?_
     rintro u w5 ⟨⟨vl5,b5,Au,hs5⟩,c5⟩
     simp only [zy]
     have hz2:=nW2.size
     have n05:New w w5:=(Chg.trans nW2.any c5 fun k _ e=>e).toNew fun k2 hk2 e=>by
      rcases e with e|e
      ·omega
      ·have:=(qW.lt e).1.1;omega
     have oN5:=oN2.chg (mZ _) c5 fun b hb e=>by
      rcases e with e|e
      ·have:=hsep b hb;omega
      ·exact (qW.lt e).1.2 hb
     (repeat' (first|refine aa0 ?_|refine af ?_|refine ah ?_|refine ai ?_|refine aJ ?_|refine aa7 ?_))
     refine aK (j+1,vl5,L2++yR k n 1) ⟨rfl,rfl,rfl,rfl,rfl,rfl,rfl,rfl,rfl,rfl,trivial⟩ ⟨by dsimp only;omega,?_,b5,?_,oN5,n05⟩ (by dsimp only;omega)
     ·dsimp only
      rw [hL2,take_snoc hx,List.flatMap_append]
      simp
     ·refine Au.mono tN.mo (fun b hb e=>?_) (fun _ _ e=>e)
      rcases e with e|e
      ·exact e
      ·have hb2:=bW2.lt
       exact ⟨by omega,fun e2=>by have:=(oN2.lt e2).2;omega⟩
    ·obtain rfl:j=(nums 4 txt).length:=by omega
     rw [List.take_length] at hL2
     refine aK (k+1,vl2,L2) ⟨rfl,rfl,rfl,rfl,rfl,rfl,trivial⟩ ⟨by dsimp only;omega,?_,bW2,qW.mono tN.mo (fun b _ e=>e.1) (fun _ _ e=>e),nW2⟩ (by dsimp only;omega)
     dsimp only
     rw [C9,hR,hL2];dsimp only
     rw [hN]
   ·have hR3:C9 l i 3=none:=by
     have h1:C9 l i (k+1)=none:=by
      rw [C9,hR];dsimp only
      rw [show uF l i k (nmK k)=none by unfold uF;rw [hv];dsimp only;rw [if_neg (by rw [hf];decide)]]
     have h2: ∀m,k+1≤m→C9 l i m=none:=by
      intro m hm
      induction m with
      |zero=>omega
      |succ m ih=>
       by_cases e:k+1=m+1
       ·rw [←e];exact h1
       ·rw [C9,ih (by omega)]
     exact h2 3 (by omega)
    rw [hf,hR3]
    (repeat' (first|refine aa0 ?_|refine aa1 ?_|refine af ?_|refine aa8 ?_|refine ah ?_|refine aj ?_|refine ai ?_|refine ax ?_|refine aN ?_|refine bf ?_|refine bG ?_|refine aa3 ?_|(refine pV (fun _=>?_) (fun _=>?_)<;>(first|(exfalso;omega)|skip))))
    exact aW rfl rfl rfl ⟨_,rfl,⟨_,_,rfl,OQ⟩,n04⟩
 ·have h0:i≠0:=by omega
  obtain rfl:k=3:=by omega
  rw [hR]
  dsimp only
  rw [if_neg h0]
  refine ay (Jc (h.keep nO nW.keep) hok h0 hi) rfl ?_
  rintro _ w3 ⟨⟨wv,e,rfl,hwp⟩,n3⟩
  have n03:=New.trans nW n3
  cases hwm:uq l i with
  |none=>
   rw [hwm] at hwp
   dsimp only at hwp
   (repeat' (first|refine aa0 ?_|refine aa1 ?_|refine af ?_|refine aa8 ?_|refine ah ?_|refine aj ?_|refine ai ?_|refine ax ?_|refine aN ?_|refine aa3 ?_|(refine pV (fun _=>?_) (fun _=>?_)<;>(first|(exfalso;omega)|skip))))
   exact aW rfl rfl rfl ⟨_,rfl,⟨_,_,rfl,OQ⟩,n03⟩
  |some ws=>
   rw [hwm] at hwp
   obtain ⟨rfl,DR⟩:=hwp
   dsimp only
   obtain ⟨hwl,hwx⟩:=KR hok hi hwm
   obtain ⟨na,nc,rfl,_,_⟩:=DR.form
   have b3:=bW.chg n3 fun e=>e
   have vP:=own.new (mV pO) n3
   have hz3:=n3.size
   generalize WX:(Value.slice na ws.length nc)=nv at DR
   have Tm:ny (flat wP) 344 2 (fun b=>nv.ownBlock=some b) NoB w3 nv ws:=DR.AB fun b hb _=>hb
   have hsep: ∀b,nv.ownBlock=some b→bv<b∧vl.ownBlock≠some b:=fun b hb=>by
    have h1:=(DR.lt hb).1
    refine ⟨by omega,fun e=>?_⟩
    have:=(own.lt e).2
    omega
   subst WX
   (repeat' (first|refine aa0 ?_|refine aa1 ?_|refine af ?_|refine aa8 ?_|refine aO rfl ?_|refine ah ?_|refine aj ?_|refine ai ?_|refine Wc.block ?_|refine Wc.skip ?_|refine aa4 ?_|(refine pV (fun _=>?_) (fun _=>?_)<;>(first|(exfalso;omega)|skip))))
   refine aU (σ:=Nat×Value×List Clm) (fun q=>[(8,.pointer (some ⟨bv,0,none⟩)),(9,.func (.func 242) #[] #[.pointer (some ⟨bv,0,none⟩)]),(76,.slice na ws.length nc),(77,vi ws.length),(78,vi q.1)])
    (fun q W=>q.1≤ws.length∧q.2.2=L++(ws.take q.1).flatMap (fun x=>yR 3 x.1 x.2)∧Bk W bv 301 [q.2.1]∧ny (flat pO) 198 3 (fun b=>bv<b∧(Value.slice na ws.length nc).ownBlock≠some b) NoB W q.2.1 q.2.2∧ny (flat wP) 344 2 (fun b=>(Value.slice na ws.length nc).ownBlock=some b) NoB W (.slice na ws.length nc) ws∧New w W) (fun q=>ws.length-q.1) (0,vl,L) ⟨rfl,rfl,rfl,rfl,rfl,trivial⟩
    ⟨Nat.zero_le _,by simp,b3,vP.AB fun b hb e=>⟨e,fun e2=>(hsep b e2).2 hb⟩,Tm,n03⟩ ?_
   rintro ⟨j,vl2,L2⟩ G2 W2 ⟨hj,hL2,bW2,qW,oN2,nW2⟩
   dsimp only at hj hL2 bW2 qW oN2 nW2
   simp only [oO]
   have Vd:L2.length≤100000:=by
    have g1:=uP (f:=fun x:Win=>yR 3 x.1 x.2) (fun _=>Gf _ _ _) (ws.take j)
    have:(ws.take j).length≤ws.length:=by simp only [List.length_take];omega
    rw [hL2,List.length_append]
    omega
   have hz2:=nW2.size
   have af4:=bW2.lt
   (repeat' (first|refine af ?_|refine ah ?_|refine aj ?_|refine ai ?_|refine Wc.block ?_|refine Wc.skip ?_|refine aQ ?_|refine aS ?_|refine aP ?_|refine aT ?_|refine aa3 ?_|refine aa4 ?_|refine aa9 (fun _=>?_) (fun _=>?_)))
   ·obtain ⟨x,hx⟩:=nN ws (k:=j) (by omega)
    obtain ⟨hx1,hx2⟩:=hwx x (List.mem_of_getElem? hx)
    refine bD (oN2.rd wY.mo) rfl rfl (by omega) hx fun b o cs hl hR hat=>?_
    obtain rfl:cs=wP x:=hR
    refine bQ hat rfl rfl ?_
    clear hat
    refine Wl.alloc fun w4 b4 n4 s4=>?_
    refine aX (new:=wP x) b4 rfl rfl rfl rfl (show (2:Nat)≤2 from Nat.le_refl 2) (by intro c hc;simp at hc;rcases hc with rfl|rfl<;>rfl) fun w5 b5 c5 s5=>?_
    replace b5:Bk w5 W2.heap.size 344 (wP x):=b5
    have n25:New W2 w5:=(Chg.trans n4.any c5 fun _ _ e=>e).toNew fun k hk e=>by omega
    (repeat' (first|refine aa0 ?_|refine af ?_|refine ah ?_|refine ai ?_|refine aa5 ?_))
    refine au (u:=w64 x.1) rfl (b5.cell (o:=0) rfl) ?_
    (repeat' (refine aa5 ?_))
    refine au (u:=w64 x.2) rfl (b5.cell (o:=1) rfl) ?_
    have Au:=qW.new (mV pO) n25
    refine dG (dst:=some 87) rfl (KO (kind:=3) (fr:=x.1) (size:=x.2) (bW2.chg n25 fun e=>e) Au (fun k2 hk2=>by have:=(qW.lt hk2).1.1;omega) Vd hx1 hx2) rfl ?_
    rintro u w6 ⟨⟨vl6,b6,Qy,hs6⟩,c6⟩
    simp only [zy]
    have n06:New w w6:=(Chg.trans (New.trans nW2 n25).any c6 fun k _ e=>e).toNew fun k2 hk2 e=>by
     rcases e with e|e
     ·omega
     ·have:=(qW.lt e).1.1;omega
    have oN6:=(oN2.new (mV wP) n25).chg (mV wP) c6 fun b hb e=>by
     rcases e with e|e
     ·have:=hsep b hb;omega
     ·exact (qW.lt e).1.2 hb
    (repeat' (first|refine aa0 ?_|refine af ?_|refine ah ?_|refine ai ?_|refine aJ ?_|refine aa7 ?_))
    refine aK (j+1,vl6,L2++yR 3 x.1 x.2) ⟨rfl,rfl,rfl,rfl,rfl,trivial⟩ ⟨by dsimp only;omega,?_,b6,?_,oN6,n06⟩ (by dsimp only;omega)
    ·dsimp only
     rw [hL2,take_snoc hx,List.flatMap_append]
     simp
    ·have af5:=n25.size
     refine Qy.mono tN.mo (fun b hb e=>?_) (fun _ _ e=>e)
     rcases e with e|e
     ·exact e
     ·exact ⟨by omega,fun e2=>by have:=(oN2.lt e2).2;omega⟩
   ·obtain rfl:j=ws.length:=by omega
    rw [List.take_length] at hL2
    subst hL2
    have qW:=qW.mono (Pb':=fun b=>bv<b) tN.mo (fun b _ e=>e.1) (fun _ _ e=>e)
    generalize hLL:L++ws.flatMap (fun x=>yR 3 x.1 x.2)=L2 at qW Vd
    have hsb: ∀k,(vl2).ownBlock=some k→k≠bv:=fun k hk=>by have:=(qW.lt hk).1;omega
    have ada:=bW2.lt
    refine au (u:=vl2) rfl (bW2.cell (o:=0) rfl) ?_
    refine ay (F9 qW (by omega)) rfl ?_
    rintro _ w17 ⟨Tn,c7⟩
    have b7:=bW2.chg c7 (fun e=>hsb bv e rfl)
    (repeat' (first|refine af ?_|refine ah ?_|refine aj ?_|refine ai ?_))
    refine au (u:=vl2) rfl (b7.cell (o:=0) rfl) ?_
    refine ay (CY Tn (by rw [List.length_mergeSort];omega)) rfl ?_
    rintro v8 w18 ⟨Jh,WY,c8⟩
    have b8:=b7.chg c8 (fun e=>hsb bv e rfl)
    generalize hcm:qK (L2.mergeSort fun x y=> !decide (ru y x<0))=cm at Jh
    obtain ⟨a8,cp8,rfl,hf1,hf2⟩:=Jh.form
    simp only [maxLen] at hf2
    refine bH (u:=.slice a8 cm.length cp8) b8 rfl (show (0:Nat)<1 by omega) rfl rfl fun w19 b9 c9=>?_
    replace b9:Bk w19 bv 301 [.slice a8 cm.length cp8]:=b9
    have WZ:=Jh.chg (mV pO) c9 fun k hk e=>hsb k (WY k hk) e
    have Xa:Chg (fun k=>k=bv∨(vl2).ownBlock=some k) W2 w19:=Chg.trans (Chg.trans (c7.mono fun k _ e=>.inr e) c8 fun k _ e=>.inr e) c9 fun k _ e=>.inl e
    have n09:New w w19:=(Chg.trans nW2.any Xa fun k _ e=>e).toNew fun k hk e=>by
     rcases e with e|e
     ·omega
     ·have:=(qW.lt e).1;omega
    (repeat' (first|refine af ?_|refine ah ?_|refine aj ?_|refine ai ?_))
    refine au (u:=.slice a8 cm.length cp8) rfl (b9.cell (o:=0) rfl) ?_
    (repeat' (first|refine aa1 ?_|refine af ?_|refine aO rfl ?_|refine ah ?_|refine aj ?_|refine ai ?_|refine Wc.skip ?_|refine ax ?_|refine aN ?_|refine aa3 ?_|refine aa4 ?_|refine bM rfl rfl (fun _=>?_) (fun _=>?_)))
    ·refine aW rfl rfl rfl ⟨_,rfl,⟨_,_,rfl,?_⟩,n09⟩
     rw [if_neg (by omega)]
     exact OQ
    ·refine au (u:=.slice a8 cm.length cp8) rfl (b9.cell (o:=0) rfl) ?_
     (repeat' (first|refine aa1 ?_|refine af ?_|refine ah ?_|refine ax ?_))
     refine aW rfl rfl rfl ⟨_,rfl,⟨_,_,rfl,?_⟩,n09⟩
     rw [if_pos (by omega)]
     exact ⟨rfl,WZ.mono tN.mo (fun b _ e=>by omega) (fun _ _ e=>e)⟩
 ·have h0:i=0:=by omega
  obtain rfl:k=3:=by omega
  rw [hR]
  dsimp only
  rw [if_pos h0]
  dsimp only
  have hsb: ∀k,(vl).ownBlock=some k→k≠bv:=fun k hk=>by have:=(own.lt hk).1;omega
  have ada:=bW.lt
  refine au (u:=vl) rfl (bW.cell (o:=0) rfl) ?_
  refine ay (F9 own (by omega)) rfl ?_
  rintro _ w17 ⟨Tn,c7⟩
  have b7:=bW.chg c7 (fun e=>hsb bv e rfl)
  (repeat' (first|refine af ?_|refine ah ?_|refine aj ?_|refine ai ?_))
  refine au (u:=vl) rfl (b7.cell (o:=0) rfl) ?_
  refine ay (CY Tn (by rw [List.length_mergeSort];omega)) rfl ?_
  rintro v8 w18 ⟨Jh,WY,c8⟩
  have b8:=b7.chg c8 (fun e=>hsb bv e rfl)
  generalize hcm:qK (L.mergeSort fun x y=> !decide (ru y x<0))=cm at Jh
  obtain ⟨a8,cp8,rfl,hf1,hf2⟩:=Jh.form
  simp only [maxLen] at hf2
  refine bH (u:=.slice a8 cm.length cp8) b8 rfl (show (0:Nat)<1 by omega) rfl rfl fun w19 b9 c9=>?_
  replace b9:Bk w19 bv 301 [.slice a8 cm.length cp8]:=b9
  have WZ:=Jh.chg (mV pO) c9 fun k hk e=>hsb k (WY k hk) e
  have Xa:Chg (fun k=>k=bv∨(vl).ownBlock=some k) W w19:=Chg.trans (Chg.trans (c7.mono fun k _ e=>.inr e) c8 fun k _ e=>.inr e) c9 fun k _ e=>.inl e
  have n09:New w w19:=(Chg.trans nW.any Xa fun k _ e=>e).toNew fun k hk e=>by
   rcases e with e|e
   ·omega
   ·have:=(own.lt e).1;omega
  (repeat' (first|refine af ?_|refine ah ?_|refine aj ?_|refine ai ?_))
  refine au (u:=.slice a8 cm.length cp8) rfl (b9.cell (o:=0) rfl) ?_
  (repeat' (first|refine aa1 ?_|refine af ?_|refine aO rfl ?_|refine ah ?_|refine aj ?_|refine ai ?_|refine Wc.skip ?_|refine ax ?_|refine aN ?_|refine aa3 ?_|refine aa4 ?_|refine bM rfl rfl (fun _=>?_) (fun _=>?_)))
  ·refine aW rfl rfl rfl ⟨_,rfl,⟨_,_,rfl,?_⟩,n09⟩
   rw [if_neg (by omega)]
   exact OQ
  ·refine au (u:=.slice a8 cm.length cp8) rfl (b9.cell (o:=0) rfl) ?_
   (repeat' (first|refine aa1 ?_|refine af ?_|refine ah ?_|refine ax ?_))
   refine aW rfl rfl rfl ⟨_,rfl,⟨_,_,rfl,?_⟩,n09⟩
   rw [if_pos (by omega)]
   exact ⟨rfl,WZ.mono tN.mo (fun b _ e=>by omega) (fun _ _ e=>e)⟩
end Go.Proofs.YtjecgaiaiophpaaGreatDoor
namespace Go.Proofs.YtjecgaiaiophpaaGreatDoor
open Go Wk
section
variable {P:Program} {n:Nat} {ds:List Deferred} {C:World→Prop} {K:Fr→Prop} {F:Fr} {ops rest:List Oper} {d:Nat} {ty:TypeId} {pos:String} {aft:Array Edge}
theorem jI {x i:Operand} {t e m bytes b:Nat} {agg:Bool} {z:Value} {k:IntKind} {j:Int} [ht:Und P t (.array m e)] [he:ElT P e 1 bytes agg z] (hx:ev n F x=.pointer (some ⟨b,0,none⟩)) (hi:ev n F i=.int k j) (h0:0≤j) (h1:j<m)
 (c:Wq P n ds C K ops rest (upd F d (.pointer (some ⟨b,j.toNat,none⟩)))):Wq P n ds C K ops (⟨some d,.indexAddr t x i,ty,pos,aft,none⟩::rest) F:=
 Wq.val (fun w _=>by simp only [execOp,hx,hi,Sem.run_bind,Eg ht.h he h0 h1,Result.andThen_ok,Sem.run_pure]) c
end
end Go.Proofs.YtjecgaiaiophpaaGreatDoor
namespace Go.Proofs.YtjecgaiaiophpaaGreatDoor
open Go Wk
open Go.RowKit (Below)
attribute [local irreducible] Go.Calls
theorem Wk.ny.uV {α:Type} {R:Rel α} {e:TypeId} {sz:Nat} {Pb Pe M:Nat→Prop} {w w':World} {v:Value} {xs:List α} (hR:qG R sz) (h:ny R e sz Pb Pe w v xs) (c:Chg M w w') (s: ∀k,v.ownBlock=some k→ ¬M k) (s2: ∀k,Pe k→v.ownBlock≠some k→ ¬M k):ny R e sz Pb Pe w' v xs:=by
 obtain ⟨cs,hoc,he⟩:=h.AB (Pb':=fun b=>v.ownBlock=some b∧Pb b) fun b hb hP=>⟨hb,hP⟩
 exact ⟨cs,(hoc.keep (c.keep fun b _ hP=>s b hP.1)).mono fun b _ hP=>hP.2,fun i x hx=>hR.st _ _ _ _ _ (c.keep fun b _ hP=>s2 b hP.1 hP.2) (he i x hx)⟩
abbrev grC (lv:Value) (hm:Nat) (ev wv gv pv:Value):List Value:=[lv,.map (some hm),ev,wv,gv,pv]
theorem Gh {t:List Nd} {i kind:Nat} {soft:Bool} {f place:Nat} {h:Int} {c:List Int}:uf t i kind soft (f+1) place (h::c)=match zK t h.toNat with
 |none=>[⟨i,none,kind,soft,place,[]⟩]
 |some to_=>match FH (ndA t to_) (rM kind).2 with
  |none=>[⟨i,none,kind,soft,place,[]⟩]
  |some n=>if c.length<n then [⟨i,none,kind,soft,place,[]⟩] else ⟨i,some to_,kind,soft,place,c.take n⟩::uf t i kind soft f (place+1) (c.drop n):=by
 rw [uf];rfl
theorem l9 {P:Program} {n:Nat} {ds:List Deferred} {Q:Po} {F:Fr} {w:World} {ops rest:List Oper} {d:Nat} {ty t:TypeId} {pos:String} {aft:Array Edge} {x i:Operand} {a k u:Value} (hx:ev n F x=a) (hi:ev n F i=k) (hr:(Instr.index t a k).run P w=.ok u w) (c:Wl P n ds Q ops rest (upd F d u) w):
 Wl P n ds Q ops (⟨some d,.index t x i,ty,pos,aft,none⟩::rest) F w:=
 Wl.val (by simp only [execOp,hx,hi,Sem.run_bind,hr,Result.andThen_ok,Sem.run_pure]) c
theorem Tq {x:Nd} {nm:Nm} {n:Nat} (h:FH x nm=some n):n≤8:=by
 unfold FH at h
 split at h
 ·cases h;decide
 ·split at h
  ·split at h
   ·cases h;assumption
   ·cases h
  ·cases h
theorem Ic {lo bg hm:Nat} {w:World} {lv ev wv gv pv:Value} {t:List Nd} {es:List Ed} {i kind:Nat} {soft:Bool} {Pb Pe:Nat→Prop}
 (hb:Bk w bg 225 (grC lv hm ev wv gv pv)) (ht:RdS rNd 3 (fun k=>k<lo) w lv t) (hok:nV t=true) (hi:i<t.length) (hk1:1≤kind) (hk5:kind≤5) (hmp:qO Tryz.prog 166 w hm (zV (qM t)))
 (own:ny rEd 150 6 Pb Pe w ev es) (hel:es.length≤10000000) (hPb: ∀b,w.heap.size≤b→Pb b) (hPe: ∀b,w.heap.size≤b→Pe b) (hnb: ¬Pb bg∧ ¬Pe bg∧ ¬Pb hm∧hm≠bg) (hlo:lo≤bg∧ ∀b,b<lo→ ¬Pb b):
 Calls Tryz.prog 173 #[.pointer (some ⟨bg,0,none⟩),vi i,.int .u8 kind,.bool soft] w (Ret fun _ w'=> ∃ev',Bk w' bg 225 (grC lv hm ev' wv gv pv)∧ny rEd 150 6 Pb Pe w' ev' (es++wF t i kind soft)∧Chg (fun k=>k=bg∨ev.ownBlock=some k) w w'∧ ∀k,ev'.ownBlock=some k→ev.ownBlock=some k∨w.heap.size≤k):=by
 have hlen:=oN hok
 have YF:=hb.lt
 have af6:=hmp.lt
 have adb:=ht.form
 have ade:=own.form
 obtain ⟨la,lc,rfl,_,_⟩:=adb
 obtain ⟨ea,ec,rfl,_,_⟩:=ade
 refine mQ Tryz.func173 rfl Tryz.ntmps173 rfl ?_
 refine aj ?_
 (repeat' (refine ai ?_))
 refine ay Nl rfl ?_
 rintro _ w1 ⟨rfl,n1⟩
 (repeat' (refine aa0 ?_))
 refine l9 rfl rfl (I7 hk1 hk5) ?_
 refine Wl.alloc fun w2 b2 n2 s2=>?_
 refine aX (new:=kwC kind) b2 rfl rfl rfl rfl (show (2:Nat)≤2 from Nat.le_refl 2) (by intro c hc;simp at hc;rcases hc with rfl|rfl<;>rfl) fun w3 b3 c3 s3=>?_
 replace b3:Bk w3 w1.heap.size 322 (kwC kind):=b3
 have hz1:=n1.size
 have n03:New w w3:=New.trans n1 ((Chg.trans n2.any c3 fun _ _ e=>e).toNew fun k hk e=>by omega)
 (repeat' (first|refine af ?_|refine ah ?_))
 refine aj ?_
 (repeat' (refine ai ?_))
 refine gY rfl rfl (by omega) (by omega) ?_
 refine au (u:=vs (rM kind).1) rfl (b3.cell (o:=0) rfl) ?_
 (repeat' (first|refine aa1 ?_|refine af ?_|refine ah ?_))
 have hkw:(rM kind).1.length≤100∧(rM kind).2.length≤100:=by
  have:kind=1∨kind=2∨kind=3∨kind=4∨kind=5:=by omega
  rcases this with rfl|rfl|rfl|rfl|rfl<;>decide
 refine eY (fun F W=>agrees F [(0,.pointer (some ⟨bg,0,none⟩)),(1,vi i),(2,.int .u8 kind),(3,.bool soft),(8,.pointer (some ⟨w1.heap.size,0,none⟩)),(9,vs ((rM kind).1++if soft=true then [63] else []))]∧w3=W) ?_ ?_
 ·cases soft
  ·(repeat' (first|refine aa0 ?_|refine af ?_|refine ah ?_|refine aj ?_|refine ai ?_|refine Wc.skip ?_|refine aa4 ?_))
   exact dw ⟨⟨rfl,rfl,rfl,rfl,rfl,by show vs (rM kind).1=_;simp,trivial⟩,rfl⟩
  ·(repeat' (first|refine aa0 ?_|refine af ?_|refine ah ?_|refine aj ?_|refine ai ?_|refine aa3 ?_))
   refine jb (a:=(rM kind).1) (b:=[63]) rfl rfl (by simp;omega) ?_
   (repeat' (first|refine aa1 ?_|refine af ?_))
   exact dw ⟨⟨rfl,rfl,rfl,rfl,rfl,rfl,trivial⟩,rfl⟩
 rintro F W ⟨hF,rfl⟩
 generalize hnm:(rM kind).1++(if soft=true then [63] else [])=nm at hF
 rw [←oD hF]
 simp only [oO]
 clear hF
 have hb3:=hb.chg n03 fun e=>e
 have hx:=FX hi
 (repeat' (first|refine aa0 ?_|refine aj ?_|refine ai ?_|refine bI rfl ?_|refine aa5 ?_))
 refine au (u:=.slice la t.length lc) rfl (hb3.cell (o:=0) rfl) ?_
 (repeat' (refine aa0 ?_))
 refine bD (ht.keep nO n03.keep) rfl rfl (by omega) hx fun b o cs hl hR hat=>?_
 obtain ⟨pv1,rfl,hpv⟩:=hR
 refine bQ hat rfl rfl ?_
 clear hat
 (repeat' (refine aa0 ?_))
 refine ay (zN (x:=ndA t i) (nm:=nm) hpv) rfl ?_
 rintro _ w4 ⟨rfl,n4⟩
 have n04:=New.trans n03 n4
 have ev1: ∀o:Option (List UInt8),IW o=.tuple #[vs (o.getD []),.bool o.isSome]:=fun o=>by cases o<;>rfl
 rw [ev1]
 have hvl:((sZ t i nm).getD []).length≤1024:=xW hok hi
 generalize hvv:(val (ndA t i).oJ nm).getD []=txt
 have hvl:txt.length≤1024:=by rw [←hvv];exact hvl
 (repeat' (first|refine aa0 ?_|refine aa1 ?_|refine af ?_|refine aa8 ?_|refine ah ?_|refine aj ?_|refine ai ?_))
 refine bZ (ps:=[(0,.tmp 39),(1,.const (vi (-1))),(2,.tmp 40),(3,.tmp 41)]) (parts:=[(0,vi i),(1,vi (-1)),(2,.int .u8 kind),(3,.bool soft)]) rfl rfl (by simp [Value.cells]) ?_
 refine Wl.alloc fun w5 b5 n5 s5=>?_
 refine aX (new:=edC ⟨i,none,kind,soft,0,[]⟩ (.slice none 0 0)) b5 rfl rfl rfl rfl (show (6:Nat)≤6 from Nat.le_refl 6) Qo fun w6 b6 c6 s6=>?_
 replace b6:Bk w6 w4.heap.size 150 (edC ⟨i,none,kind,soft,0,[]⟩ (.slice none 0 0)):=b6
 have hz4:=n04.size
 have n46:New w4 w6:=(Chg.trans n5.any c6 fun _ _ e=>e).toNew fun k hk e=>by omega
 (repeat' (first|refine aa0 ?_|refine af ?_|refine ah ?_|refine aj ?_|refine ai ?_))
 refine ay (Bf (l:=txt) (by omega)) rfl ?_
 rintro _ w7 ⟨nv,rfl,DR,n7⟩
 have n47:=New.trans n46 n7
 have n07:=New.trans n04 n47
 have af7:=n46.size
 have hz7:=n7.size
 generalize hbx:w4.heap.size=bx at b6 s5 hz4
 have b7:=b6.chg n7 fun e=>e
 have hb7:=hb.chg n07 fun e=>e
 have hw8:=b3.chg (New.trans n4 n47) fun e=>e
 generalize hb8:w1.heap.size=b8 at b3 hw8 b2
 have af8:=b6.lt
 have h8l:=b3.lt
 have af9:=n4.size
 have Tn:=own.uV pW n07 (fun _ _ e=>e) fun _ _ _ e=>e
 have hrm:wF t i kind soft=if form 4 txt=0 then uf t i kind soft (nums 4 txt).length 0 (nums 4 txt) else [⟨i,none,kind,soft,0,[]⟩]:=by
  unfold wF
  rw [hnm,show sZ t i nm=val (ndA t i).oJ nm from rfl,hvv]
 rw [hrm]
 have hnl:=CZ txt
 rcases OY txt with hf|hf
 ·rw [hf,if_pos rfl]
  obtain ⟨na,nc,rfl,_,_⟩:=DR.form
  generalize hnv:(Value.slice na (nums 4 txt).length nc).ownBlock=nb at*
  have EL: ∀k,nb=some k→w6.heap.size≤k∧k<w7.heap.size:=fun k hk=>DR.lt (by rw [hnv];exact hk)
  have hN:RdS (Wk.one yQ) 1 (fun b=>nb=some b) w7 (.slice na (nums 4 txt).length nc) (nums 4 txt):=((DR.AB (Pb':=fun b=>nb=some b) fun b hb _=>by rw [←hnv];exact hb).rd (nD _)).mono (nD _) fun b _ e=>e.resolve_right fun e=>e
  have Jh:ny rEd 150 6 (fun b=>Pb b∧b≠bx∧b≠b8∧nb≠some b) (fun b=>Pe b∧b≠bx∧b≠b8∧nb≠some b) w7 (.slice ea es.length ec) es:=by
   have h1:=own.mono (Pb':=fun b=>Pb b∧b<w.heap.size) (Pe':=fun b=>Pe b∧b<w.heap.size) qB (fun b hb e=>⟨e,hb⟩) (fun b hb e=>⟨e,hb⟩)
   exact (h1.uV pW n07 (fun _ _ e=>e) fun _ _ _ e=>e).mono qB (fun b _ e=>⟨e.1,by omega,by omega,fun e2=>by have:=EL b e2;omega⟩) (fun b _ e=>⟨e.1,by omega,by omega,fun e2=>by have:=EL b e2;omega⟩)
  (repeat' (first|refine aa0 ?_|refine aa1 ?_|refine af ?_|refine aa8 ?_|refine ah ?_|refine aj ?_|refine ai ?_|refine Wc.block ?_|refine Wc.skip ?_|refine aa4 ?_|(refine pV (fun _=>?_) (fun _=>?_)<;>(first|(exfalso;omega)|skip))))
  refine aU (σ:=Nat×(Value×List Int)×(Value×List Ed)) (fun q=>[(0,.pointer (some ⟨bg,0,none⟩)),(8,.pointer (some ⟨b8,0,none⟩)),(12,.pointer (some ⟨bx,0,none⟩)),(13,q.2.1.1)])
   (fun q W=>(∃f,q.2.1.2.length≤f∧q.2.2.2++uf t i kind soft f q.1 q.2.1.2=es++uf t i kind soft (nums 4 txt).length 0 (nums 4 txt))∧q.2.2.2.length+q.2.1.2.length≤es.length+1024∧q.1+q.2.1.2.length≤1024∧(∀x∈q.2.1.2, ∃n:Nat,x=(n:Int)∧n<4294967296)
     ∧Bk W bg 225 (grC (.slice la t.length lc) hm q.2.2.1 wv gv pv)∧Bk W bx 150 (edC ⟨i,none,kind,soft,q.1,[]⟩ (.slice none 0 0))∧RdS (Wk.one yQ) 1 (fun b=>nb=some b) W q.2.1.1 q.2.1.2
     ∧ny rEd 150 6 (fun b=>Pb b∧b≠bx∧b≠b8∧nb≠some b) (fun b=>Pe b∧b≠bx∧b≠b8∧nb≠some b) W q.2.2.1 q.2.2.2∧Chg (fun k=>k=bg∨(Value.slice ea es.length ec).ownBlock=some k) w W∧(∀k,q.2.2.1.ownBlock=some k→(Value.slice ea es.length ec).ownBlock=some k∨w.heap.size≤k)∧Bk W b8 322 (kwC kind)∧w7.heap.size≤W.heap.size)
   (fun q=>q.2.1.2.length) (0,(.slice na (nums 4 txt).length nc,nums 4 txt),(.slice ea es.length ec,es)) ⟨rfl,rfl,rfl,rfl,trivial⟩
   ⟨⟨_,Nat.le_refl _,rfl⟩,by dsimp only;omega,by dsimp only;omega,OX,hb7,b7,hN,Jh,n07.any,fun k hk=>.inl hk,hw8,Nat.le_refl _⟩ ?_
  rintro ⟨pl,⟨cv,c⟩,⟨ev2,es2⟩⟩ G W ⟨⟨f,hfl,hE⟩,Xc,hpl,hcn,hbW,bxW,hcW,zo,cW,GK,b8W,hzW⟩
  dsimp only at hfl hE Xc hpl hcn hbW bxW hcW zo cW GK b8W hzW
  simp only [oO]
  obtain ⟨ca,cc,rfl,_,_⟩:=hcW.form
  obtain ⟨pa,pc,rfl,_,_⟩:=zo.form
  have hne: ∀k,(Value.slice pa es2.length pc).ownBlock=some k→k≠bg∧k≠bx∧nb≠some k∧k≠hm∧ ¬k<lo∧k≠b8:=fun k hk=>by
   obtain ⟨⟨h1,h2,h3,h5⟩,h4⟩:=zo.lt hk
   exact ⟨fun e=>hnb.1 (e▸h1),h2,h5,fun e=>hnb.2.2.1 (e▸h1),fun e=>hlo.2 k e h1,h3⟩
  have adf:=n07.size
  (repeat' (first|refine aa0 ?_|refine af ?_|refine aO rfl ?_|refine ah ?_|refine aj ?_|refine ai ?_|refine Wc.block ?_|refine Wc.skip ?_|refine aQ ?_|refine aS ?_|refine aP ?_|refine aT ?_|refine aa3 ?_|refine aa4 ?_|refine bM rfl rfl (fun _=>?_) (fun _=>?_)))
  ·obtain ⟨x,r,rfl⟩: ∃x r,c=x::r:=by
    cases c with
    |nil=>simp at*
    |cons x r=>exact ⟨x,r,rfl⟩
   obtain ⟨h,rfl,hhl⟩:=hcn _ (List.mem_cons_self)
   obtain ⟨f,rfl⟩: ∃f',f=f'+1:=⟨f-1,by simp only [List.length_cons] at hfl;omega⟩
   simp only [List.length_cons] at hfl Xc hpl
   rw [Gh,Int.toNat_natCast] at hE
   have mpW:qO Tryz.prog 166 W hm (zV (qM t)):=hmp.chg cW fun e=>by
    rcases e with e|e
    ·exact hnb.2.2.2 e
    ·exact hnb.2.2.1 (own.lt e).1
   have htW:RdS rNd 3 (fun k=>k<lo) W (.slice la t.length lc) t:=ht.keep nO (cW.keep fun b hb h1 e=>by
    rcases e with e|e
    ·omega
    ·exact hlo.2 b h1 (own.lt e).1)
   have afH:((h:Int)::r).length=r.length+1:=List.length_cons
   have fin: ∀(W':World) (v':Value),es2++ [⟨i,none,kind,soft,pl,[]⟩]=es++uf t i kind soft (nums 4 txt).length 0 (nums 4 txt)→Bk W' bg 225 (grC (.slice la t.length lc) hm v' wv gv pv)→ny rEd 150 6 (fun b=>Pb b∧b≠bx∧b≠b8∧nb≠some b) (fun b=>Pe b∧b≠bx∧b≠b8∧nb≠some b) W' v' (es2++ [⟨i,none,kind,soft,pl,[]⟩])→Chg (fun k=>k=bg∨(Value.slice ea es.length ec).ownBlock=some k) w W'→(∀k,v'.ownBlock=some k→(Value.slice ea es.length ec).ownBlock=some k∨w.heap.size≤k)→
    ∃ev',Bk W' bg 225 (grC (.slice la t.length lc) hm ev' wv gv pv)∧ny rEd 150 6 Pb Pe W' ev' (es++uf t i kind soft (nums 4 txt).length 0 (nums 4 txt))∧Chg (fun k=>k=bg∨(Value.slice ea es.length ec).ownBlock=some k) w W'∧ ∀k,ev'.ownBlock=some k→(Value.slice ea es.length ec).ownBlock=some k∨w.heap.size≤k:=fun W' v' e1 e2 e3 e4 e5=>
    ⟨v',e2,e1▸e3.mono qB (fun _ _ e=>e.1) (fun _ _ e=>e.1),e4,e5⟩
   refine cO rfl (by kernel_rfl) (fun w'=>New W w') (Chg.drew _ _) ?_
   intro w8 n8
   (repeat' (first|refine aa2 (pF (ak ?_))|refine aa2 (bF rfl (ak ?_))|refine aa2 (pK (ak ?_))))
   refine aa2 (aB (u:=.map (some hm)) rfl (fun w' hw=>(hbW.chg hw fun e=>e).cell (o:=1) rfl) (ak ?_))
   (repeat' (refine aa2 (pF (ak ?_))))
   refine aa2 (dJ (y:=(h:Int)) hcW (fun w' hw=>hw.keep) rfl rfl (by omega) rfl fun b o hcell=>ak ?_)
   refine aa2 (aB (u:=.int .u32 h) rfl hcell (ak ?_))
   refine aa2 (lX (l:=zV (qM t)) kU (fun w' hw=>mpW.chg hw fun e=>e) (WR hhl) (fun r r' h1 h2=>SX (zU t) h1 h2) rfl rfl (fun q hq=>ak ?_) (fun hq=>ak ?_))
   ·obtain ⟨to_,rfl,hto⟩:=U4 hq
    have YG:=H6 hto
    have hxt:=FX YG
    rw [hto] at hE
    dsimp only at hE
    (repeat' (first|refine dm ?_|refine aa2 (pF (ak ?_))|refine aa2 (fB (by conv=>{lhs;whnf}) (ak ?_))|refine aa2 (iq rfl rfl (ak ?_))))
    (repeat' (first|refine aa0 ?_|refine aa1 ?_|refine af ?_|refine ah ?_|refine aj ?_|refine ai ?_|refine aa3 ?_))
    refine cO rfl (by kernel_rfl) (fun w'=>New W w') (n8.trans (Chg.drew _ _)) ?_
    intro w9 n9
    replace n9:=New.trans n8 n9
    (repeat' (first|refine aa2 (pF (ak ?_))|refine aa2 (bF rfl (ak ?_))|refine aa2 (pK (ak ?_))))
    refine aa2 (aB (u:=.slice la t.length lc) rfl (fun w' hw=>(hbW.chg hw fun e=>e).cell (o:=0) rfl) (ak ?_))
    (repeat' (refine aa2 (pF (ak ?_))))
    refine aa2 (dD htW (fun w' hw=>hw.keep) rfl rfl (by omega) hxt fun b o cs hl hR hat=>ak ?_)
    obtain ⟨pv2,rfl,hpv2⟩:=hR
    skip
    refine aa2 (cu hat rfl rfl (ak ?_))
    clear hat
    refine iy rfl (jI rfl rfl (by omega) (by omega) (ak ?_))
    refine aa2 (aB (u:=vs (rM kind).2) rfl (fun w' hw=>(b8W.chg hw fun e=>e).cell (o:=1) rfl) (ak ?_))
    refine bC rfl (ay (Kw (x:=ndA t to_) (nm:=(rM kind).2) (hpv2.keep (nU pC) n9.keep) (CS hok YG _)) rfl ?_)
    rintro _ w10 ⟨rfl,n10⟩
    replace n10:=New.trans n9 n10
    refine af ⟨rfl,n10,?_⟩
    (repeat' (first|refine dm ?_|refine aa2 (fB (by conv=>{lhs;whnf}) (ak ?_))))
    cases hag:FH (ndA t to_) (rM kind).2 with
    |none=>
     rw [hag] at hE
     dsimp only at hE
     rw [show qw none=(-1:Int) from rfl]
     (repeat' (first|refine aa0 ?_|refine af ?_|refine qi ?_|refine pG ?_|refine ah ?_|refine aj ?_|refine ai ?_|refine aa3 ?_|(refine aa9 (fun _=>?_) (fun _=>?_)<;>(first|(exfalso;omega)|skip))))
     refine cO rfl (by kernel_rfl) (fun w'=>Chg (fun k=>(Value.slice pa es2.length pc).ownBlock=some k) W w') (n10.any.trans (Chg.drew _ _) fun _ _ e=>e) ?_
     intro w20 n20
     replace n20:New W w20:=New.trans n10 n20
     (repeat' (first|refine aa2 (pF (ak ?_))|refine aa2 (bF rfl (ak ?_))|refine aa2 (pK (ak ?_))))
     refine aa2 (aB (u:=.slice pa es2.length pc) rfl (fun w' hw=>(hbW.chg hw fun e=>(hne bg e).1 rfl).cell (o:=2) rfl) (ak ?_))
     skip
     refine aa2 (cu (cs:=edC ⟨i,none,kind,soft,pl,[]⟩ (.slice none 0 0)) (fun w' hw=>(bxW.chg hw fun e=>(hne bx e).2.1 rfl).at) rfl rfl (ak ?_))
     refine bC rfl (dB (R:=rEd) (y:=⟨i,none,kind,soft,pl,[]⟩) (Pe:=NoB) pW rfl rfl rfl ⟨_,rfl,bP⟩ (by omega) (by omega) fun vt w21 ot n21 s21 KD=>?_)
     have n201:=New.trans n20 n21
     refine af ⟨rfl,n201.any,?_⟩
     have OZ:=n20.size
     have Ji:=zo.uV pW n201 (fun _ _ e=>e) fun _ _ _ e=>e
     have hwW:w.heap.size≤W.heap.size:=cW.size
     refine bC rfl (dH pW Ji (ot.rd pW.mo) (fun y cs hy=>qB _ _ _ _ _ (fun b hb hP=>?_) hy) rfl rfl (by omega) (by simp only [maxLen,List.length_singleton];omega) (by simp only [List.length_singleton];omega) fun v22 w22 o22 c22 Dc _=>?_)
     ·have hbb:w20.heap.size≤b:=hP.resolve_right fun e=>e
      exact ⟨⟨hPe b (by omega),by omega,by omega,fun e=>by have:=EL b e;omega⟩,fun e=>by have:=(zo.lt e).2;omega⟩
     have c222:Chg (fun k=>(Value.slice pa es2.length pc).ownBlock=some k) W w22:=Chg.trans n201.any c22 fun _ _ e=>e
     refine af ⟨rfl,c222,?_⟩
     (repeat' (first|refine aa2 (bF rfl (ak ?_))|refine aa2 (pK (ak ?_))))
     have b22:=hbW.chg c222 fun e=>(hne bg e).1 rfl
     refine Wt.last rfl (bH (u:=v22) b22 rfl (show (2:Nat)<6 by omega) rfl (by obtain ⟨_,_,rfl,_⟩:=o22.form;rfl) fun w23 b23 c23=>?_)
     replace b23:Bk w23 bg 225 (grC (.slice la t.length lc) hm v22 wv gv pv):=b23
     have Jj: ∀k,v22.ownBlock=some k→(Value.slice pa es2.length pc).ownBlock=some k∨w21.heap.size≤k:=fun k hk=>by
      rcases Dc with e|e
      ·exact .inl (e▸hk)
      ·exact .inr (e k hk)
     have O0:=n201.size
     have Xd:=hbW.lt
     have BB:=o22.mono (Pb':=fun b=>Pb b∧b≠bx∧b≠b8∧nb≠some b) (Pe':=fun b=>Pe b∧b≠bx∧b≠b8∧nb≠some b) qB (fun b _ e=>by
      rcases e with e|e
      ·exact e
      ·exact ⟨hPb b (by omega),by omega,by omega,fun e2=>by have:=EL b e2;omega⟩) (fun _ _ e=>e)
     have o23:=BB.uV pW c23 (fun k hk e=>by
      subst e
      exact hnb.1 (BB.lt hk).1.1) fun k hk _ e=>by
      subst e
      exact hnb.2.1 hk.1
     refine af ?_
     (repeat' (first|refine ah ?_|refine ax ?_|refine aN ?_|refine bf ?_|refine bG ?_))
     refine fK rfl ⟨_,rfl,fin w23 v22 hE b23 o23 (Chg.trans cW (Chg.trans (M:=fun k=>k=bg∨(Value.slice pa es2.length pc).ownBlock=some k) (c222.mono fun k _ e=>.inr e) c23 fun k _ e=>.inl e) fun k hk e=>?_) fun k hk=>?_⟩
     ·rcases e with e|e
      ·exact .inl e
      ·exact (GK k e).elim .inr fun e=>by omega
     ·rcases Jj k hk with e|e
      ·exact GK k e
      ·exact .inr (by omega)
    |some n=>
     rw [hag] at hE
     dsimp only at hE
     have hn8:=Tq hag
     rw [show qw (some n)=(n:Int) from rfl]
     (repeat' (first|refine aa0 ?_|refine af ?_|refine aa6 ?_|refine pq ?_|refine aO rfl ?_|refine ah ?_|refine aj ?_|refine ai ?_|refine Wc.skip ?_|refine aa3 ?_|refine aa4 ?_|refine aa7 ?_|(refine aa9 (fun _=>?_) (fun _=>?_)<;>(first|(exfalso;omega)|skip))|refine bM rfl rfl (fun _=>?_) (fun _=>?_)))
     ·rw [if_pos (by omega)] at hE
      refine cO rfl (by kernel_rfl) (fun w'=>Chg (fun k=>(Value.slice pa es2.length pc).ownBlock=some k) W w') (n10.any.trans (Chg.drew _ _) fun _ _ e=>e) ?_
      intro w20 n20
      replace n20:New W w20:=New.trans n10 n20
      (repeat' (first|refine aa2 (pF (ak ?_))|refine aa2 (bF rfl (ak ?_))|refine aa2 (pK (ak ?_))))
      refine aa2 (aB (u:=.slice pa es2.length pc) rfl (fun w' hw=>(hbW.chg hw fun e=>(hne bg e).1 rfl).cell (o:=2) rfl) (ak ?_))
      skip
      refine aa2 (cu (cs:=edC ⟨i,none,kind,soft,pl,[]⟩ (.slice none 0 0)) (fun w' hw=>(bxW.chg hw fun e=>(hne bx e).2.1 rfl).at) rfl rfl (ak ?_))
      refine bC rfl (dB (R:=rEd) (y:=⟨i,none,kind,soft,pl,[]⟩) (Pe:=NoB) pW rfl rfl rfl ⟨_,rfl,bP⟩ (by omega) (by omega) fun vt w21 ot n21 s21 KD=>?_)
      have n201:=New.trans n20 n21
      refine af ⟨rfl,n201.any,?_⟩
      have OZ:=n20.size
      have Ji:=zo.uV pW n201 (fun _ _ e=>e) fun _ _ _ e=>e
      have hwW:w.heap.size≤W.heap.size:=cW.size
      refine bC rfl (dH pW Ji (ot.rd pW.mo) (fun y cs hy=>qB _ _ _ _ _ (fun b hb hP=>?_) hy) rfl rfl (by omega) (by simp only [maxLen,List.length_singleton];omega) (by simp only [List.length_singleton];omega) fun v22 w22 o22 c22 Dc _=>?_)
      ·have hbb:w20.heap.size≤b:=hP.resolve_right fun e=>e
       exact ⟨⟨hPe b (by omega),by omega,by omega,fun e=>by have:=EL b e;omega⟩,fun e=>by have:=(zo.lt e).2;omega⟩
      have c222:Chg (fun k=>(Value.slice pa es2.length pc).ownBlock=some k) W w22:=Chg.trans n201.any c22 fun _ _ e=>e
      refine af ⟨rfl,c222,?_⟩
      (repeat' (first|refine aa2 (bF rfl (ak ?_))|refine aa2 (pK (ak ?_))))
      have b22:=hbW.chg c222 fun e=>(hne bg e).1 rfl
      refine Wt.last rfl (bH (u:=v22) b22 rfl (show (2:Nat)<6 by omega) rfl (by obtain ⟨_,_,rfl,_⟩:=o22.form;rfl) fun w23 b23 c23=>?_)
      replace b23:Bk w23 bg 225 (grC (.slice la t.length lc) hm v22 wv gv pv):=b23
      have Jj: ∀k,v22.ownBlock=some k→(Value.slice pa es2.length pc).ownBlock=some k∨w21.heap.size≤k:=fun k hk=>by
       rcases Dc with e|e
       ·exact .inl (e▸hk)
       ·exact .inr (e k hk)
      have O0:=n201.size
      have Xd:=hbW.lt
      have BB:=o22.mono (Pb':=fun b=>Pb b∧b≠bx∧b≠b8∧nb≠some b) (Pe':=fun b=>Pe b∧b≠bx∧b≠b8∧nb≠some b) qB (fun b _ e=>by
       rcases e with e|e
       ·exact e
       ·exact ⟨hPb b (by omega),by omega,by omega,fun e2=>by have:=EL b e2;omega⟩) (fun _ _ e=>e)
      have o23:=BB.uV pW c23 (fun k hk e=>by
       subst e
       exact hnb.1 (BB.lt hk).1.1) fun k hk _ e=>by
       subst e
       exact hnb.2.1 hk.1
      refine af ?_
      (repeat' (first|refine ah ?_|refine ax ?_|refine aN ?_|refine bf ?_|refine bG ?_))
      refine fK rfl ⟨_,rfl,fin w23 v22 hE b23 o23 (Chg.trans cW (Chg.trans (M:=fun k=>k=bg∨(Value.slice pa es2.length pc).ownBlock=some k) (c222.mono fun k _ e=>.inr e) c23 fun k _ e=>.inl e) fun k hk e=>?_) fun k hk=>?_⟩
      ·rcases e with e|e
       ·exact .inl e
       ·exact (GK k e).elim .inr fun e=>by omega
      ·rcases Jj k hk with e|e
       ·exact GK k e
       ·exact .inr (by omega)
     ·rw [if_neg (by omega)] at hE
      have adg:=bxW.chg n10 fun e=>e
      have aga:=hbW.chg n10 fun e=>e
      refine dh adg rfl rfl ?_
      refine Wl.alloc fun w11 b11 n11 s11=>?_
      refine aX (new:=edC ⟨i,none,kind,soft,pl,[]⟩ (.slice none 0 0)) b11 rfl rfl rfl rfl (show (6:Nat)≤6 from Nat.le_refl 6) Qo fun w12 b12 c12 s12=>?_
      replace b12:Bk w12 w10.heap.size 150 (edC ⟨i,none,kind,soft,pl,[]⟩ (.slice none 0 0)):=b12
      have Ie:New w10 w12:=(Chg.trans n11.any c12 fun _ _ e=>e).toNew fun k hk e=>by omega
      have n12:=New.trans n10 Ie
      (repeat' (first|refine aa0 ?_|refine af ?_|refine ah ?_|refine aj ?_|refine ai ?_|refine aa7 ?_))
      refine kC (hcW.keep (nT _) n12.keep) rfl rfl rfl (by omega) (by omega) (by simp only [List.length_cons];omega) fun v13 YH=>?_
      rw [show ((n:Int)+1).toNat=n+1 by omega,show (1:Int).toNat=1 from rfl,List.take_succ_cons,List.drop_succ_cons,List.drop_zero] at YH
      refine ay (KE YH (by simp only [List.length_take];omega)) rfl ?_
      rintro av w14 ⟨O1,n14⟩
      obtain ⟨aa,acp,rfl,_,_⟩:=O1.form
      generalize hal:(r.take n).length=al at O1
      have b14:=b12.chg n14 fun e=>e
      (repeat' (refine aa5 ?_))
      refine bH (u:=vi to_) b14 rfl (show (1:Nat)<6 by omega) rfl rfl fun w15 b15 c15=>?_
      (repeat' (refine aa5 ?_))
      refine bH (u:=.slice aa al acp) b15 rfl (show (5:Nat)<6 by omega) rfl rfl fun w16 b16 c16=>?_
      replace b16:Bk w16 w10.heap.size 150 (edC ⟨i,some to_,kind,soft,pl,r.take n⟩ (.slice aa al acp)):=b16
      have Xe:=n10.size
      have YI:=Ie.size
      have adh:=n14.size
      have Tt:Chg (fun k=>k=w10.heap.size) w14 w16:=Chg.trans c15 c16 fun _ _ e=>e
      have n16:New W w16:=(Chg.trans (M:=fun k=>k=w10.heap.size) (New.trans n12 n14).any Tt fun k _ e=>e).toNew fun k hk e=>by omega
      have adi:=(O1.mono (Pb':=fun b=>w10.heap.size<b) (nD _) (fun b _ e=>by have h9:w12.heap.size≤b:=e;omega) (fun _ _ e=>e)).chg (mZ yQ) Tt fun k hk e=>by have:=(O1.lt hk).1;omega
      have agb:=n16.size
      have hc16:=Tt.size
      (repeat' (first|refine af ?_|refine ah ?_|refine aj ?_))
      refine cO rfl (by kernel_rfl) (fun w'=>Chg (fun k=>(Value.slice pa es2.length pc).ownBlock=some k) w16 w') (Chg.drew _ _) ?_
      intro w20 n20
      (repeat' (first|refine aa2 (pF (ak ?_))|refine aa2 (bF rfl (ak ?_))|refine aa2 (pK (ak ?_))))
      refine aa2 (aB (u:=.slice pa es2.length pc) rfl (fun w' hw=>((hbW.chg n16 fun e=>e).chg hw fun e=>(hne bg e).1 rfl).cell (o:=2) rfl) (ak ?_))
      skip
      have YJ: ∀k,(Value.slice pa es2.length pc).ownBlock=some k→k<W.heap.size:=fun k hk=>(zo.lt hk).2
      refine aa2 (cu (cs:=edC ⟨i,some to_,kind,soft,pl,r.take n⟩ (.slice aa al acp)) (fun w' hw=>(b16.chg hw fun e=>by have:=YJ _ e;omega).at) rfl rfl (ak ?_))
      have adk:=adi.new (mZ yQ) n20
      have agc:=n20.size
      refine bC rfl (dB (R:=rEd) (y:=⟨i,some to_,kind,soft,pl,r.take n⟩) (Pe:=fun b=>w10.heap.size<b∧b<w20.heap.size) pW rfl rfl rfl ⟨_,rfl,(adk.mono (Pb':=fun b=>w10.heap.size<b∧b<w20.heap.size) (nD _) (fun b hb e=>⟨e,hb⟩) (fun _ _ e=>e)).rd (nD _) |>.mono (nD _) fun b hb e=>by rcases e with e|e;exact ⟨e,by omega⟩;exact e.elim⟩ (by omega) (by omega) fun vt w21 ot n21 s21 KD=>?_)
      have n201:=New.trans n20 n21
      have adl:=New.trans n16 n201
      refine af ⟨rfl,n201.any,?_⟩
      have OZ:=n20.size
      have Ji:=zo.uV pW adl (fun _ _ e=>e) fun _ _ _ e=>e
      have hwW:w.heap.size≤W.heap.size:=cW.size
      refine bC rfl (dH pW Ji (ot.rd pW.mo) (fun y cs hy=>qB _ _ _ _ _ (fun b hb hP=>?_) hy) rfl rfl (by omega) (by simp only [maxLen,List.length_singleton];omega) (by simp only [List.length_singleton];omega) fun v22 w22 o22 c22 Dc _=>?_)
      ·have hbb:w10.heap.size<b:=by
        rcases hP with hP|hP
        ·have h9:w20.heap.size≤b:=hP
         omega
        ·exact hP.1
       exact ⟨⟨hPe b (by omega),by omega,by omega,fun e=>by have:=EL b e;omega⟩,fun e=>by have:=(zo.lt e).2;omega⟩
      have c222:Chg (fun k=>(Value.slice pa es2.length pc).ownBlock=some k) w16 w22:=Chg.trans n201.any c22 fun _ _ e=>e
      refine af ⟨rfl,c222,?_⟩
      (repeat' (first|refine aa2 (bF rfl (ak ?_))|refine aa2 (pK (ak ?_))))
      have b22:=(hbW.chg n16 fun e=>e).chg c222 fun e=>(hne bg e).1 rfl
      have adm:=(bxW.chg n16 fun e=>e).chg c222 fun e=>(hne bx e).2.1 rfl
      refine Wt.last rfl (bH (u:=v22) b22 rfl (show (2:Nat)<6 by omega) rfl (by obtain ⟨_,_,rfl,_⟩:=o22.form;rfl) fun w23 b23 c23=>?_)
      replace b23:Bk w23 bg 225 (grC (.slice la t.length lc) hm v22 wv gv pv):=b23
      have Jj: ∀k,v22.ownBlock=some k→(Value.slice pa es2.length pc).ownBlock=some k∨w21.heap.size≤k:=fun k hk=>by
       rcases Dc with e|e
       ·exact .inl (e▸hk)
       ·exact .inr (e k hk)
      have O0:=n201.size
      have Xd:=hbW.lt
      have agd:=bxW.lt
      have BB:=o22.mono (Pb':=fun b=>Pb b∧b≠bx∧b≠b8∧nb≠some b) (Pe':=fun b=>Pe b∧b≠bx∧b≠b8∧nb≠some b) qB (fun b _ e=>by
       rcases e with e|e
       ·exact e
       ·exact ⟨hPb b (by omega),by omega,by omega,fun e2=>by have:=EL b e2;omega⟩) (fun _ _ e=>e)
      have o23:=BB.uV pW c23 (fun k hk e=>by
       subst e
       exact hnb.1 (BB.lt hk).1.1) fun k hk _ e=>by
       subst e
       exact hnb.2.1 hk.1
      have O3:Chg (fun k=>k=bg∨(Value.slice pa es2.length pc).ownBlock=some k) W w23:=Chg.trans (Chg.trans n16.any (c222.mono fun k _ e=>Or.inr e) fun _ _ e=>e) c23 fun k _ e=>.inl e
      have YK:bx≠bg:=by omega
      have h8g:b8≠bg:=by omega
      have YL:=adm.chg c23 YK
      have adn:=b8W.chg O3 fun e=>e.elim h8g fun e=>(hne b8 e).2.2.2.2.2 rfl
      have hcv:=hcW.keep (nT _) (O3.keep fun b _ e1 e2=>by
       rcases e2 with e2|e2
       ·subst e2;have:=EL b e1;omega
       ·exact (hne b e2).2.2.1 e1)
      refine af ?_
      (repeat' (first|refine aa0 ?_|refine ah ?_|refine ai ?_|refine aa7 ?_))
      refine jg hcv rfl rfl (by omega) (by simp only [List.length_cons];omega) fun v24 hv24=>?_
      rw [show ((n:Int)+1).toNat=n+1 by omega,List.drop_succ_cons] at hv24
      (repeat' (first|refine aa1 ?_|refine af ?_|refine ah ?_|refine ai ?_|refine aJ ?_|refine aa5 ?_))
      refine au (u:=vi pl) rfl (YL.cell (o:=4) rfl) ?_
      (repeat' (first|refine aa5 ?_|refine aa7 ?_))
      refine bH (u:=vi (pl+1:Nat)) YL rfl (show (4:Nat)<6 by omega) (by show vi ((pl:Int)+1)=_;rfl) rfl fun w25 b25 c25=>?_
      replace b25:Bk w25 bx 150 (edC ⟨i,none,kind,soft,pl+1,[]⟩ (.slice none 0 0)):=b25
      (repeat' (refine af ?_))
      refine aK (pl+1,(v24,r.drop n),(v22,es2++ [⟨i,some to_,kind,soft,pl,r.take n⟩])) ⟨rfl,rfl,rfl,rfl,trivial⟩ ⟨⟨f,?_,?_⟩,?_,?_,?_,b23.chg c25 YK.symm,b25,hv24.keep (nT _) (c25.keep fun b _ e1 e2=>by subst e2;have:=EL b e1;omega),o23.uV pW c25 (fun k hk e=>by subst e;exact (BB.lt hk).1.2.1 rfl) (fun k hk _ e=>hk.2.1 e),Chg.trans (Chg.trans cW O3 fun k hk e=>?_) c25 fun k hk e=>by omega,fun k hk=>?_,adn.chg c25 (by omega),by have:=c25.size;have:=O3.size;omega⟩ ?_
      ·simp only [List.length_drop];omega
      ·dsimp only;rw [←hE];simp
      ·simp only [List.length_append,List.length_singleton,List.length_drop];omega
      ·simp only [List.length_drop];omega
      ·exact fun x hx=>hcn x (List.mem_cons_of_mem _ (List.mem_of_mem_drop hx))
      ·rcases e with e|e
       ·exact .inl e
       ·exact (GK k e).elim .inr fun e=>by omega
      ·rcases Jj k hk with e|e
       ·exact GK k e
       ·exact .inr (by omega)
      ·simp only [List.length_cons,List.length_drop];omega
   ·rw [SS hq] at hE
    dsimp only at hE
    (repeat' (first|refine dm ?_|refine aa2 (pF (ak ?_))|refine aa2 (fB (by conv=>{lhs;whnf}) (ak ?_))|refine aa2 (iq rfl rfl (ak ?_))))
    (repeat' (first|refine aa0 ?_|refine aa1 ?_|refine af ?_|refine qi ?_|refine pG ?_|refine ah ?_|refine aj ?_|refine ai ?_|refine Wc.skip ?_|refine aa3 ?_|refine aa4 ?_|(refine aa9 (fun _=>?_) (fun _=>?_)<;>(first|(exfalso;omega)|skip))))
    refine cO rfl (by kernel_rfl) (fun w'=>Chg (fun k=>(Value.slice pa es2.length pc).ownBlock=some k) W w') (n8.any.trans (Chg.drew _ _) fun _ _ e=>e) ?_
    intro w20 n20
    replace n20:New W w20:=New.trans n8 n20
    (repeat' (first|refine aa2 (pF (ak ?_))|refine aa2 (bF rfl (ak ?_))|refine aa2 (pK (ak ?_))))
    refine aa2 (aB (u:=.slice pa es2.length pc) rfl (fun w' hw=>(hbW.chg hw fun e=>(hne bg e).1 rfl).cell (o:=2) rfl) (ak ?_))
    skip
    refine aa2 (cu (cs:=edC ⟨i,none,kind,soft,pl,[]⟩ (.slice none 0 0)) (fun w' hw=>(bxW.chg hw fun e=>(hne bx e).2.1 rfl).at) rfl rfl (ak ?_))
    refine bC rfl (dB (R:=rEd) (y:=⟨i,none,kind,soft,pl,[]⟩) (Pe:=NoB) pW rfl rfl rfl ⟨_,rfl,bP⟩ (by omega) (by omega) fun vt w21 ot n21 s21 KD=>?_)
    have n201:=New.trans n20 n21
    refine af ⟨rfl,n201.any,?_⟩
    have OZ:=n20.size
    have Ji:=zo.uV pW n201 (fun _ _ e=>e) fun _ _ _ e=>e
    have hwW:w.heap.size≤W.heap.size:=cW.size
    refine bC rfl (dH pW Ji (ot.rd pW.mo) (fun y cs hy=>qB _ _ _ _ _ (fun b hb hP=>?_) hy) rfl rfl (by omega) (by simp only [maxLen,List.length_singleton];omega) (by simp only [List.length_singleton];omega) fun v22 w22 o22 c22 Dc _=>?_)
    ·have hbb:w20.heap.size≤b:=hP.resolve_right fun e=>e
     exact ⟨⟨hPe b (by omega),by omega,by omega,fun e=>by have:=EL b e;omega⟩,fun e=>by have:=(zo.lt e).2;omega⟩
    have c222:Chg (fun k=>(Value.slice pa es2.length pc).ownBlock=some k) W w22:=Chg.trans n201.any c22 fun _ _ e=>e
    refine af ⟨rfl,c222,?_⟩
    (repeat' (first|refine aa2 (bF rfl (ak ?_))|refine aa2 (pK (ak ?_))))
    have b22:=hbW.chg c222 fun e=>(hne bg e).1 rfl
    refine Wt.last rfl (bH (u:=v22) b22 rfl (show (2:Nat)<6 by omega) rfl (by obtain ⟨_,_,rfl,_⟩:=o22.form;rfl) fun w23 b23 c23=>?_)
    replace b23:Bk w23 bg 225 (grC (.slice la t.length lc) hm v22 wv gv pv):=b23
    have Jj: ∀k,v22.ownBlock=some k→(Value.slice pa es2.length pc).ownBlock=some k∨w21.heap.size≤k:=fun k hk=>by
     rcases Dc with e|e
     ·exact .inl (e▸hk)
     ·exact .inr (e k hk)
    have O0:=n201.size
    have Xd:=hbW.lt
    have BB:=o22.mono (Pb':=fun b=>Pb b∧b≠bx∧b≠b8∧nb≠some b) (Pe':=fun b=>Pe b∧b≠bx∧b≠b8∧nb≠some b) qB (fun b _ e=>by
     rcases e with e|e
     ·exact e
     ·exact ⟨hPb b (by omega),by omega,by omega,fun e2=>by have:=EL b e2;omega⟩) (fun _ _ e=>e)
    have o23:=BB.uV pW c23 (fun k hk e=>by
     subst e
     exact hnb.1 (BB.lt hk).1.1) fun k hk _ e=>by
     subst e
     exact hnb.2.1 hk.1
    refine af ?_
    (repeat' (first|refine ah ?_|refine ax ?_|refine aN ?_|refine bf ?_|refine bG ?_))
    refine fK rfl ⟨_,rfl,fin w23 v22 hE b23 o23 (Chg.trans cW (Chg.trans (M:=fun k=>k=bg∨(Value.slice pa es2.length pc).ownBlock=some k) (c222.mono fun k _ e=>.inr e) c23 fun k _ e=>.inl e) fun k hk e=>?_) fun k hk=>?_⟩
    ·rcases e with e|e
     ·exact .inl e
     ·exact (GK k e).elim .inr fun e=>by omega
    ·rcases Jj k hk with e|e
     ·exact GK k e
     ·exact .inr (by omega)
  ·have hc0:c=[]:=List.eq_nil_of_length_eq_zero (by omega)
   subst hc0
   have he:uf t i kind soft f pl []=[]:=by cases f<;>rfl
   rw [he,List.append_nil] at hE
   refine dI rfl ⟨_,rfl,⟨_,hbW,?_,cW,GK⟩⟩
   rw [←hE]
   exact zo.mono qB (fun _ _ e=>e.1) (fun _ _ e=>e.1)
 ·rw [hf,if_neg (by decide)]
  have hne: ∀k,(Value.slice ea es.length ec).ownBlock=some k→k≠bg∧k<w.heap.size:=fun k hk=>⟨fun e=>hnb.1 (e▸(own.lt hk).1),(own.lt hk).2⟩
  (repeat' (first|refine aa0 ?_|refine aa1 ?_|refine af ?_|refine aa8 ?_|refine ah ?_|refine aj ?_|refine ai ?_|refine aa3 ?_|(refine pV (fun _=>?_) (fun _=>?_)<;>(first|(exfalso;omega)|skip))))
  refine cO rfl (by kernel_rfl) (fun w'=>Chg (fun k=>(Value.slice ea es.length ec).ownBlock=some k) w7 w') (Chg.drew _ _) ?_
  intro w20 n20
  (repeat' (first|refine aa2 (pF (ak ?_))|refine aa2 (bF rfl (ak ?_))|refine aa2 (pK (ak ?_))))
  refine aa2 (aB (u:=.slice ea es.length ec) rfl (fun w' hw=>(hb7.chg hw fun e=>(hne bg e).1 rfl).cell (o:=2) rfl) (ak ?_))
  skip
  refine aa2 (cu (cs:=edC ⟨i,none,kind,soft,0,[]⟩ (.slice none 0 0)) (fun w' hw=>(b7.chg hw fun e=>by have:=(hne bx e).2;omega).at) rfl rfl (ak ?_))
  refine bC rfl (dB (R:=rEd) (y:=⟨i,none,kind,soft,0,[]⟩) (Pe:=NoB) pW rfl rfl rfl ⟨_,rfl,bP⟩ (by omega) (by omega) fun vt w21 ot n21 s21 KD=>?_)
  have n201:=New.trans n20 n21
  refine af ⟨rfl,n201.any,?_⟩
  have OZ:=n20.size
  have Ji:=Tn.uV pW n201 (fun _ _ e=>e) fun _ _ _ e=>e
  have hwW:w.heap.size≤w7.heap.size:=n07.size
  refine bC rfl (dH pW Ji (ot.rd pW.mo) (fun y cs hy=>qB _ _ _ _ _ (fun b hb hP=>?_) hy) rfl rfl (by omega) (by simp only [maxLen,List.length_singleton];omega) (by simp only [List.length_singleton];omega) fun v22 w22 o22 c22 Dc _=>?_)
  ·have hbb:w20.heap.size≤b:=hP.resolve_right fun e=>e
   exact ⟨hPe b (by omega),fun e=>by have:=(own.lt e).2;omega⟩
  have c222:Chg (fun k=>(Value.slice ea es.length ec).ownBlock=some k) w7 w22:=Chg.trans n201.any c22 fun _ _ e=>e
  refine af ⟨rfl,c222,?_⟩
  (repeat' (first|refine aa2 (bF rfl (ak ?_))|refine aa2 (pK (ak ?_))))
  have b22:=hb7.chg c222 fun e=>(hne bg e).1 rfl
  refine Wt.last rfl (bH (u:=v22) b22 rfl (show (2:Nat)<6 by omega) rfl (by obtain ⟨_,_,rfl,_⟩:=o22.form;rfl) fun w23 b23 c23=>?_)
  replace b23:Bk w23 bg 225 (grC (.slice la t.length lc) hm v22 wv gv pv):=b23
  have Jj: ∀k,v22.ownBlock=some k→(Value.slice ea es.length ec).ownBlock=some k∨w21.heap.size≤k:=fun k hk=>by
   rcases Dc with e|e
   ·exact .inl (e▸hk)
   ·exact .inr (e k hk)
  have O0:=n201.size
  have BB:=o22.mono (Pb':=Pb) (Pe':=Pe) qB (fun b _ e=>by
   rcases e with e|e
   ·exact e
   ·exact hPb b (by omega)) (fun _ _ e=>e)
  have o23:=BB.uV pW c23 (fun k hk e=>by
   subst e
   exact hnb.1 (BB.lt hk).1) fun k hk _ e=>by
   subst e
   exact hnb.2.1 hk
  refine af ?_
  (repeat' (first|refine ah ?_|refine ax ?_|refine aN ?_))
  refine fK rfl ⟨_,rfl,v22,b23,o23,Chg.trans (Chg.trans n07.any (c222.mono fun k _ e=>Or.inr e) fun _ _ e=>e) c23 fun k _ e=>.inl e,fun k hk=>?_⟩
  rcases Jj k hk with e|e
  ·exact .inl e
  ·exact .inr (by omega)
end Go.Proofs.YtjecgaiaiophpaaGreatDoor
namespace Go.Proofs.YtjecgaiaiophpaaGreatDoor
open Go Wk Sy
open Go.RowKit (Below)
attribute [local irreducible] Go.Calls
abbrev SV:=Option Addr×Nat×Nat
abbrev svV (x:SV):Value:=.slice x.1 x.2.1 x.2.2
abbrev SE:=(Ed×SV)×Nat
abbrev seC (x:SE):List Value:=edC x.1.1 (svV x.1.2)
theorem EM (x:SE): ∀c∈seC x,c.oneCell'=true:=Qo
theorem Nv:qG (flat seC) 6:=qH _ (fun _=>rfl) EM
abbrev qP (Pb:Nat→Prop) (w:World) (v:Value) (D:List SE):Prop:=ny (flat seC) 150 6 Pb NoB w v D
theorem iF {ops:Array Oper} {k N:Nat} {p:Nat→Bool} (h:(List.range N).all (fun j=>bd ops j k||p j)=true) (hN: ∀j,N≤j→p j=true) (hk: ∀j,k<j→p j=true) {j:Nat} (hj:k<j∨bd ops j k=false):p j=true:=by
 rcases hj with hj|hj
 ·exact hk j hj
 ·rcases Nat.lt_or_ge j N with hlt|hge
  ·have:=List.all_eq_true.1 h j (List.mem_range.2 hlt)
   rw [hj,Bool.false_or] at this
   exact this
  ·exact hN j hge
def Ve (j:Nat):Bool:=decide (4≤j∧j≤7∨20≤j)
theorem wI {Pb:Nat→Prop} {w:World} {g cap a b n L:Nat} {cv:Value} {D:List SE} (hL:D.length=L) (own:qP Pb w (.slice (some ⟨g,0,none⟩) L cap) D) (h1:a+n≤b) (h2:b+n≤L) (hl:L≤2000000000):
 Calls Tryz.prog 279 #[.slice (some ⟨g,0,none⟩) L cap,vi a,vi b,vi n,cv] w (Ret fun _ w'=> ∃D',Swp D a b n D'∧qP Pb w' (.slice (some ⟨g,0,none⟩) L cap) D'∧Chg (fun k=>k=g) w w'):=by
 refine mQ Tryz.func279 rfl Tryz.ntmps279 rfl ?_
 (repeat' (first|refine aa1 ?_|refine af ?_|refine ah ?_|refine aj ?_|refine ai ?_|refine Wc.block ?_))
 refine aU (σ:=Nat×List SE) (fun q=>[(0,.slice (some ⟨g,0,none⟩) L cap),(1,vi a),(2,vi b),(3,vi n),(10,vi q.1)]) (fun q W=>q.1≤n∧Swp D a b q.1 q.2∧qP Pb W (.slice (some ⟨g,0,none⟩) L cap) q.2∧Chg (fun k=>k=g) w W) (fun q=>n-q.1) (0,D) ⟨rfl,rfl,rfl,rfl,rfl,trivial⟩ ⟨Nat.zero_le _,Swp.zero D (by omega) (by omega),own,aV _ _⟩ ?_
 rintro ⟨i,D1⟩ G W ⟨hi,hS,o1,c1⟩
 dsimp only at hi hS o1 c1
 simp only [oO]
 (repeat' (first|refine aa0 ?_|refine af ?_|refine ah ?_|refine aj ?_|refine ai ?_|refine Wc.block ?_|refine Wc.skip ?_|refine aQ ?_|refine aS ?_|refine aP ?_|refine aT ?_|refine aa3 ?_|refine aa4 ?_|refine aa9 (fun _=>?_) (fun _=>?_)))
 ·have hl1:=hS.len
  obtain ⟨p,q,hp,hq,hS2⟩:=hS.step (by omega) (by omega)
  refine iD rfl (by kernel_rfl) (fun k w'=>Chg (fun b=>Ve k=true∧b=g) W w') (fun k=>Chg.drew _ _) ?_
  intro w2 n2
  have hat: ∀(k:Nat) (w':World) (j:Nat) (x:SE),Ve k=false→D1[j]? =some x→Chg (fun b=>Ve k=true∧b=g) W w'→At w' g (0+((j:Nat):Int).toNat*6) (seC x):=fun k w' j x hk hx hw=>by
   have:=(o1.chg (mV seC) hw fun _ _ e=>by rw [hk] at e;cases e.1).at rfl rfl hx
   rw [Nat.zero_add,Int.toNat_natCast];exact this
  (repeat' (first|refine bU rfl (pF (ak ?_))|refine bU rfl (Wq.add rfl rfl (by omega) (by omega) (ak ?_))))
  refine bU rfl (rY (ak ?_))
  refine bU rfl (cu (cs:=seC q) (fun w' hw=>hat 13 w' (b+i) q rfl hq hw) rfl (by rfl) (ak ?_))
  (repeat' (first|refine bU rfl (pF (ak ?_))|refine bU rfl (Wq.add rfl rfl (by omega) (by omega) (ak ?_))))
  refine bU rfl (rY (ak ?_))
  refine bU rfl (cu (cs:=seC p) (fun w' hw=>hat 19 w' (a+i) p rfl hp hw) rfl (by rfl) (ak ?_))
  refine bU rfl (rY (ak ?_))
  refine iC rfl (fD (f:=seC) (q:=q) (j:=a+i) (sz:=6) (cap:=cap) (fun _=>rfl) EM (o1.new (mV seC) n2) (by rw [hl1,hL]) (by omega) (by show Value.pointer (some ⟨g,0+((a:Int)+(i:Int)).toNat*6,none⟩)=_;rw [show ((a:Int)+(i:Int)).toNat=a+i by omega,Nat.zero_add]) rfl rfl fun w3 o3 c3=>?_)
  have c13:Chg (fun k=>k=g) W w3:=Chg.trans n2.any c3 fun k _ e=>by injection e with e;exact e.symm
  refine af ⟨rfl,fun j hj=>c13.mono fun k _ e=>⟨iF (N:=24) (p:=Ve) (by kernel_rfl) (fun j hj=>decide_eq_true (.inr (by omega))) (fun j hj=>decide_eq_true (.inr (by omega))) hj,e⟩,?_⟩
  refine bU rfl (rY (ak ?_))
  refine Wu.last rfl (fD (f:=seC) (q:=p) (j:=b+i) (sz:=6) (cap:=cap) (fun _=>rfl) EM o3 (by rw [List.length_set,hl1,hL]) (by rw [List.length_set];omega) (by show Value.pointer (some ⟨g,0+((b:Int)+(i:Int)).toNat*6,none⟩)=_;rw [show ((b:Int)+(i:Int)).toNat=b+i by omega,Nat.zero_add]) rfl rfl fun w4 o4 c4=>?_)
  refine af ?_
  (repeat' (first|refine aa0 ?_|refine aa1 ?_|refine af ?_|refine ah ?_|refine ai ?_|refine aJ ?_|refine aa7 ?_))
  exact aK (i+1,(D1.set (a+i) q).set (b+i) p) ⟨rfl,rfl,rfl,rfl,rfl,trivial⟩ ⟨by dsimp only;omega,hS2,o4,Chg.trans (Chg.trans c1 c13 fun _ _ e=>e) c4 fun k _ e=>by injection e with e;exact e.symm⟩ (by dsimp only;omega)
 ·obtain rfl:i=n:=by omega
  exact dI rfl ⟨_,rfl,D1,hS,o1,c1⟩
theorem KT {Pb:Nat→Prop} {w:World} {g cap a m b L:Nat} {cv:Value} {X U V Z:List SE} (hL:(X++U++V++Z).length=L) (own:qP Pb w (.slice (some ⟨g,0,none⟩) L cap) (X++U++V++Z)) (hX:X.length=a) (hU:a+U.length=m) (hV:m+V.length=b) (h1:0<U.length) (h2:0<V.length) (hl:L≤2000000000):
 Calls Tryz.prog 264 #[.slice (some ⟨g,0,none⟩) L cap,vi a,vi m,vi b,cv] w (Ret fun _ w'=>qP Pb w' (.slice (some ⟨g,0,none⟩) L cap) (X++V++U++Z)∧Chg (fun k=>k=g) w w'):=by
 have hGl:(X++V++U++Z).length=L:=by rw [←hL];simp;omega
 have hLe:a+U.length+V.length≤L:=by rw [←hL];simp;omega
 refine mQ Tryz.func264 rfl Tryz.ntmps264 rfl ?_
 (repeat' (first|refine aa0 ?_|refine aa1 ?_|refine af ?_|refine ah ?_|refine aj ?_|refine ai ?_|refine Wc.block ?_|refine Aq ?_))
 refine aU (σ:=Nat×Nat×List SE) (fun q=>[(0,.slice (some ⟨g,0,none⟩) L cap),(2,vi m),(4,cv),(10,vi q.1),(11,vi q.2.1)]) (fun q W=>0<q.1∧0<q.2.1∧Rot (X++V++U++Z) m q.1 q.2.1 q.2.2∧qP Pb W (.slice (some ⟨g,0,none⟩) L cap) q.2.2∧Chg (fun k=>k=g) w W) (fun q=>q.1+q.2.1) (U.length,V.length,X++U++V++Z)
  ⟨rfl,rfl,rfl,by show vi ((m:Int)-a)=vi (U.length:Nat);congr 1;omega,by show vi ((b:Int)-m)=vi (V.length:Nat);congr 1;omega,trivial⟩ ⟨h1,h2,⟨X,U,V,Z,rfl,by omega,rfl,rfl,rfl⟩,own,aV _ _⟩ ?_
 rintro ⟨i,j,l⟩ G W ⟨hi,hj,hR,o1,c1⟩
 dsimp only at hi hj hR o1 c1
 simp only [oO]
 have hll:l.length=L∧i≤m∧m+j≤L:=by
  obtain ⟨X',U',V',Z',rfl,e1,e2,e3,e4⟩:=hR.ex
  have:=congrArg List.length e4
  rw [hGl] at this
  simp only [List.length_append] at this ⊢
  omega
 obtain ⟨hll,him,hmj⟩:=hll
 have hc1:((m-i:Nat):Int)=(m:Int)-i:=by omega
 have hc2:i≤m+j→((m+j-i:Nat):Int)=(m:Int)+j-i:=fun h=>by omega
 (repeat' (first|refine aa0 ?_|refine af ?_|refine ah ?_|refine aj ?_|refine ai ?_|refine Wc.block ?_|refine Wc.skip ?_|refine aQ ?_|refine aS ?_|refine aP ?_|refine aT ?_|refine aa3 ?_|refine aa4 ?_|refine aa7 ?_|refine Aq ?_|refine bM rfl rfl (fun _=>?_) (fun _=>?_)|refine pV (fun _=>?_) (fun _=>?_)))
 ·refine ay (wI (a:=m-i) (b:=m) (n:=j) (cv:=cv) hll o1 (by omega) (by omega) hl) (by rw [hc1];rfl) ?_
  rintro u w2 ⟨l2,hS,o2,c2⟩
  (repeat' (first|refine aa0 ?_|refine aa1 ?_|refine af ?_|refine ah ?_|refine ai ?_|refine aJ ?_|refine Aq ?_))
  refine aK (i-j,j,l2) ⟨rfl,rfl,rfl,by show vi ((i:Int)-j)=vi (i-j:Nat);congr 1;omega,rfl,trivial⟩ ⟨by dsimp only;omega,hj,hR.big (by omega) hS,o2,Chg.trans c1 c2 fun _ _ e=>e⟩ (by dsimp only;omega)
 ·refine ay (wI (a:=m-i) (b:=m+j-i) (n:=i) (cv:=cv) hll o1 (by omega) (by omega) hl) (by rw [hc1,hc2 (by omega)];rfl) ?_
  rintro u w2 ⟨l2,hS,o2,c2⟩
  (repeat' (first|refine aa0 ?_|refine aa1 ?_|refine af ?_|refine ah ?_|refine ai ?_|refine aJ ?_|refine Aq ?_))
  refine aK (i,j-i,l2) ⟨rfl,rfl,rfl,rfl,by show vi ((j:Int)-i)=vi (j-i:Nat);congr 1;omega,trivial⟩ ⟨hi,by dsimp only;omega,hR.small (by omega) hS,o2,Chg.trans c1 c2 fun _ _ e=>e⟩ (by dsimp only;omega)
 ·obtain rfl:i=j:=by omega
  refine ay (wI (a:=m-i) (b:=m) (n:=i) (cv:=cv) hll o1 (by omega) (by omega) hl) (by rw [hc1];rfl) ?_
  rintro u w2 ⟨l2,hS,o2,c2⟩
  (repeat' (refine af ?_))
  have e:=hR.last hS
  subst e
  exact dI rfl ⟨_,rfl,o2,Chg.trans c1 c2 fun _ _ e=>e⟩
end Go.Proofs.YtjecgaiaiophpaaGreatDoor
namespace Go.Proofs.YtjecgaiaiophpaaGreatDoor
open Go Wk Sy
open Go.RowKit (Below)
attribute [local irreducible] Go.Calls
def EN (j:Nat):Bool:=decide (2≤j∧j≤4∨14≤j)
def ltE (key:SE→Nm) (x y:SE):Prop:=key x<key y∨(key x=key y∧x.2<y.2)
def cpE (key:SE→Nm) (y x:SE):Bool:=decide (key y<key x)
theorem Jk (key:SE→Nm): ∀x y z,ltE key x y→ltE key y z→ltE key x z:=by
 intro x y z h1 h2
 unfold ltE at*
 rcases h1 with h1|⟨h1,h3⟩<;>rcases h2 with h2|⟨h2,h4⟩
 ·exact .inl (List.lt_trans h1 h2)
 ·exact .inl (h2▸h1)
 ·exact .inl (h1▸h2)
 ·exact .inr ⟨h1.trans h2,by omega⟩
theorem Xf (key:SE→Nm): ∀x y,ltE key x y→ ¬ltE key y x:=by
 intro x y h1 h2
 unfold ltE at*
 rcases h1 with h1|⟨h1,h3⟩<;>rcases h2 with h2|⟨h2,h4⟩
 ·exact List.lt_irrefl _ (List.lt_trans h1 h2)
 ·exact List.lt_irrefl _ (h2▸h1)
 ·exact List.lt_irrefl _ (h1▸h2)
 ·omega
theorem Tv {key:SE→Nm} {x y:SE} (h:x.2<y.2):(cpE key y x=true→ltE key y x)∧(cpE key y x=false→ltE key x y):=by
 unfold cpE ltE
 constructor
 ·intro e;exact .inl (of_decide_eq_true e)
 ·intro e
  have e:=of_decide_eq_false e
  by_cases e2:key y=key x
  ·exact .inr ⟨e2.symm,h⟩
  ·exact .inl (DF e e2)
def DT (cf:FuncId) (cc:Array Value) (key:SE→Nm) (Pd:SE→Prop) (g:Nat) (w0:World):Prop:= ∀w',Chg (fun k=>k=g) w0 w'→ ∀x y,Pd x→Pd y→
 Calls Tryz.prog cf ([Value.agg (seC x).toArray,Value.agg (seC y).toArray]++cc.toList).toArray w' (Ret fun r w''=>(∃z:Int,r=vi z∧(z<0↔key x<key y))∧New w' w'')
theorem DT.chg {cf:FuncId} {cc:Array Value} {key:SE→Nm} {Pd:SE→Prop} {g:Nat} {w0 w:World} (h:DT cf cc key Pd g w0) (c:Chg (fun k=>k=g) w0 w):DT cf cc key Pd g w:=fun w' c'=>h w' (Chg.trans c c' fun _ _ e=>e)
section
variable {Pb:Nat→Prop} {w:World} {g cap L:Nat} {cf:FuncId} {cc:Array Value} {key:SE→Nm} {Pd:SE→Prop} [hcf:mX Tryz.prog cf]
theorem Gi {a b:Nat} {X S Z:List SE} (hL:(X++S++Z).length=L) (own:qP Pb w (.slice (some ⟨g,0,none⟩) L cap) (X++S++Z)) (hX:X.length=a) (hS:a+S.length=b) (hix:S.Pairwise fun x y=>x.2<y.2) (hP: ∀x∈S,Pd x) (hc:DT cf cc key Pd g w) (hl:L≤2000000000):
 Calls Tryz.prog 234 #[.slice (some ⟨g,0,none⟩) L cap,vi a,vi b,.func (.func cf) #[] cc] w (Ret fun _ w'=> ∃E,E.Perm S∧Srt (ltE key) E∧qP Pb w' (.slice (some ⟨g,0,none⟩) L cap) (X++E++Z)∧Chg (fun k=>k=g) w w'):=by
 have hLl:a+S.length≤L:=by rw [←hL];simp;omega
 refine mQ Tryz.func234 rfl Tryz.ntmps234 rfl ?_
 (repeat' (first|refine aa0 ?_|refine aa1 ?_|refine af ?_|refine ah ?_|refine aj ?_|refine ai ?_|refine Wc.block ?_|refine aa7 ?_))
 refine aU (σ:=Nat×List SE) (fun q=>[(0,.slice (some ⟨g,0,none⟩) L cap),(1,vi a),(2,vi b),(3,.func (.func cf) #[] cc),(8,vi q.1)]) (fun q W=>a+1≤q.1∧(q.1≤b∨q.1=a+1)∧q.2.Perm (S.take (q.1-a))∧Srt (ltE key) q.2∧qP Pb W (.slice (some ⟨g,0,none⟩) L cap) (X++q.2++S.drop (q.1-a)++Z)∧Chg (fun k=>k=g) w W) (fun q=>b+1-q.1) (a+1,S.take 1)
  ⟨rfl,rfl,rfl,rfl,rfl,trivial⟩ ⟨Nat.le_refl _,.inr rfl,by rw [Nat.add_sub_cancel_left],?_,?_,aV _ _⟩ ?_
 ·cases S with
  |nil=>simp
  |cons x r=>simp
 ·rw [Nat.add_sub_cancel_left,List.append_assoc X,List.take_append_drop];exact own
 rintro ⟨i,E⟩ G W ⟨hi1,hib,hE,hsE,oW,cW⟩
 dsimp only at hi1 hib hE hsE oW cW
 simp only [oO]
 (repeat' (first|refine aa0 ?_|refine aa1 ?_|refine af ?_|refine ah ?_|refine aj ?_|refine ai ?_|refine Wc.block ?_|refine Wc.skip ?_|refine aQ ?_|refine aS ?_|refine aP ?_|refine aT ?_|refine aa3 ?_|refine aa4 ?_|refine aa9 (fun _=>?_) (fun _=>?_)))
 ·obtain ⟨x,hx⟩:=nN S (k:=i-a) (by omega)
  have hEl:E.length=i-a:=by rw [hE.length_eq,List.length_take];omega
  have hxd:S.drop (i-a)=x::S.drop (i+1-a):=by rw [drop_cons hx,show i-a+1=i+1-a by omega]
  have hxP:=hP x (List.mem_of_getElem? hx)
  have hlt: ∀y∈E,y.2<x.2∧Pd y:=fun y hy=>by
   have hy:=hE.mem_iff.1 hy
   obtain ⟨j,hj⟩:=List.mem_iff_getElem?.1 hy
   rw [List.getElem?_take] at hj
   split at hj
   ·rename_i hji
    refine ⟨?_,hP y (List.mem_of_getElem? hj)⟩
    obtain ⟨h1,rfl⟩:=List.getElem?_eq_some_iff.1 hj
    obtain ⟨h2,rfl⟩:=List.getElem?_eq_some_iff.1 hx
    exact List.pairwise_iff_getElem.1 hix j (i-a) h1 h2 hji
   ·cases hj
  refine aU (σ:=List SE×List SE) (fun q=>[(0,.slice (some ⟨g,0,none⟩) L cap),(1,vi a),(2,vi b),(3,.func (.func cf) #[] cc),(8,vi i),(9,vi (a+q.1.length:Nat))]) (fun q W=>E=q.1++q.2∧(∀y∈q.2,ltE key x y)∧qP Pb W (.slice (some ⟨g,0,none⟩) L cap) (X++q.1++ [x]++q.2++S.drop (i+1-a)++Z)∧Chg (fun k=>k=g) w W) (fun q=>q.1.length) (E,[])
   ⟨rfl,rfl,rfl,rfl,rfl,by show vi (i:Nat)=vi ((a+E.length:Nat):Int);congr 1;omega,trivial⟩ ⟨by simp,by simp,by rw [hxd] at oW;simpa using oW,cW⟩ ?_
  rintro ⟨S1,S2⟩ G2 W2 ⟨hEs,hS2,o2,c2⟩
  dsimp only at hEs hS2 o2 c2
  simp only [oO]
  have hfin: ∀w':World,(∀y,S1.getLast?=some y→ltE key y x)→qP Pb w' (.slice (some ⟨g,0,none⟩) L cap) (X++S1++ [x]++S2++S.drop (i+1-a)++Z)→Chg (fun k=>k=g) w w'→(a+1≤i+1∧(i+1≤b∨i+1=a+1)∧(S1++ [x]++S2).Perm (S.take (i+1-a))∧Srt (ltE key) (S1++ [x]++S2)∧qP Pb w' (.slice (some ⟨g,0,none⟩) L cap) (X++(S1++ [x]++S2)++S.drop (i+1-a)++Z)∧Chg (fun k=>k=g) w w'):=fun w' h1 h2 h3=>by
   refine ⟨by omega,.inl (by omega),?_,Me (Jk key) (hEs▸hsE) hS2 h1,by simpa using h2,h3⟩
   rw [show i+1-a=(i-a)+1 by omega,take_snoc hx]
   refine List.Perm.trans ?_ (List.Perm.append_right [x] hE)
   rw [hEs,List.append_assoc,List.append_assoc]
   exact List.Perm.append_left S1 List.perm_append_comm
  have hll:(X++S1++ [x]++S2++S.drop (i+1-a)++Z).length=L:=by
   have h1:=congrArg List.length hEs
   have h2:=congrArg List.length hxd
   rw [←hL]
   simp only [List.length_append,List.length_cons,List.length_nil,List.length_drop] at h1 h2 ⊢
   omega
  have hSl:S1.length+S2.length=i-a:=by rw [←hEl,hEs,List.length_append]
  rcases List.eq_nil_or_concat S1 with rfl|⟨S1',y,rfl⟩
  ·(repeat' (refine aj ?_))
   refine cO rfl (by kernel_rfl) (fun w'=>New W2 w') (Chg.drew _ _) ?_
   intro w3 n3
   simp only [List.length_nil,Nat.add_zero]
   (repeat' (first|refine dm ?_|refine gV rfl rfl (by assumption) ?_|refine aa2 (pF (ak ?_))|refine aa2 (dS rfl (by conv=>{lhs;whnf}) (ak ?_))|(refine aa2 (fO rfl rfl (fun _=>ak ?_) (fun _=>ak ?_))<;>(first|(exfalso;omega)|skip))))
   (repeat' (first|refine aa0 ?_|refine aa1 ?_|refine af ?_|refine ah ?_|refine ai ?_|refine aQ ?_|refine aS ?_|refine aJ ?_|refine aP ?_|refine aT ?_|refine aa4 ?_|refine aa7 ?_))
   exact aK (i+1,[]++ [x]++S2) ⟨rfl,rfl,rfl,rfl,rfl,trivial⟩ (hfin w3 (by simp) (o2.new (mV seC) n3) (Chg.trans c2 n3.any fun _ _ e=>e)) (by dsimp only;omega)
  ·have hyE:y∈E:=by rw [hEs];simp
   have hyP:=(hlt y hyE).2
   rw [List.length_concat] at hSl
   have hcl:(S1'.concat y).length=S1'.length+1:=List.length_concat
   have el:(a+(S1'.concat y).length:Nat)=a+S1'.length+1:=by rw [List.length_concat];omega
   rw [el]
   have hlist:X++S1'.concat y++ [x]++S2++S.drop (i+1-a)++Z=(X++S1')++ [y]++ [x]++(S2++S.drop (i+1-a)++Z):=by simp
   rw [hlist] at o2 hll
   have hgy:((X++S1')++ [y]++ [x]++(S2++S.drop (i+1-a)++Z))[a+S1'.length]? =some y:=by rw [List.append_assoc,List.append_assoc,List.getElem?_append_right (by simp;omega),show a+S1'.length-(X++S1').length=0 by simp;omega];rfl
   have hgx:((X++S1')++ [y]++ [x]++(S2++S.drop (i+1-a)++Z))[a+S1'.length+1]? =some x:=by rw [List.append_assoc,List.append_assoc,List.getElem?_append_right (by simp;omega),show a+S1'.length+1-(X++S1').length=1 by simp;omega];rfl
   have hXS:(X++S1').length=a+S1'.length:=by rw [List.length_append,hX]
   have Gj: ∀(w':World) (j:Nat) (xx:SE),((X++S1')++ [y]++ [x]++(S2++S.drop (i+1-a)++Z))[j]? =some xx→New W2 w'→ ∀i:Int,i=(j:Nat)→At w' g (0+i.toNat*6) (seC xx):=fun w' j xx hx hw i hi=>by
    have:=(o2.new (mV seC) hw).at rfl rfl hx
    rw [Nat.zero_add,hi,Int.toNat_natCast];exact this
   (repeat' (refine aj ?_))
   refine cO rfl (by kernel_rfl) (fun w'=>New W2 w') (Chg.drew _ _) ?_
   intro w3 n3
   (repeat' (first|refine dn rfl rfl ?_|refine aa2 (pF (ak ?_))|(refine aa2 (fO rfl rfl (fun _=>ak ?_) (fun _=>ak ?_))<;>(first|(exfalso;omega)|skip))))
   refine aa2 (rY (ak ?_))
   (repeat' (refine dn rfl rfl ?_))
   refine aa2 (cu (cs:=seC x) (fun w' hw=>Gj w' (a+S1'.length+1) _ hgx hw ((a+S1'.length+1:Nat):Int) rfl) rfl (by rfl) (ak ?_))
   (repeat' (first|refine dn rfl rfl ?_|refine aa2 (pF (ak ?_))|refine aa2 (Wq.sub rfl rfl (by omega) (by omega) (ak ?_))))
   refine aa2 (rY (ak ?_))
   (repeat' (refine dn rfl rfl ?_))
   refine aa2 (cu (cs:=seC y) (fun w' hw=>Gj w' (a+S1'.length) _ hgy hw (((a+S1'.length+1:Nat):Int)-1) (by omega)) rfl (by rfl) (ak ?_))
   (repeat' (refine dn rfl rfl ?_))
   refine bC rfl (dG (dst:=some 32) rfl (hc w3 (Chg.trans c2 n3.any fun _ _ e=>e) x y hxP hyP) rfl ?_)
   rintro _ w4 ⟨⟨z,rfl,hz⟩,n4⟩
   have n24:=New.trans n3 n4
   simp only [zy]
   refine af ⟨rfl,n24,?_⟩
   have o4:=o2.new (mV seC) n24
   have c4:Chg (fun k=>k=g) w w4:=Chg.trans c2 n24.any fun _ _ e=>e
   by_cases hk:key x<key y
   ·have hz0:=hz.2 hk
    (repeat' (first|refine dm ?_|refine dn rfl rfl ?_|refine aa2 (dM rfl (by conv=>{lhs;whnf}) (ak ?_))|(refine aa2 (eH rfl rfl (fun _=>ak ?_) (fun _=>ak ?_))<;>(first|(exfalso;omega)|skip))))
    (repeat' (first|refine ah ?_|refine aj ?_|refine Wc.block ?_|refine Wc.skip ?_|refine aa3 ?_))
    refine iD rfl (by kernel_rfl) (fun k w'=>Chg (fun b=>EN k=true∧b=g) w4 w') (fun k=>Chg.drew _ _) ?_
    intro w20 n20
    have hgp:((X++S1')++ [y]++ [x]++(S2++S.drop (i+1-a)++Z))[(a+S1'.length)]? =some y:=by rw [List.append_assoc,List.append_assoc,List.getElem?_append_right (by omega),show (a+S1'.length)-((X++S1')).length=0 by omega];rfl
    have hgq:((X++S1')++ [y]++ [x]++(S2++S.drop (i+1-a)++Z))[(a+S1'.length)+1]? =some x:=by rw [List.append_assoc,List.append_assoc,List.getElem?_append_right (by omega),show (a+S1'.length)+1-((X++S1')).length=1 by omega];rfl
    have hat: ∀(k:Nat) (w':World) (j:Nat) (xx:SE),EN k=false→((X++S1')++ [y]++ [x]++(S2++S.drop (i+1-a)++Z))[j]? =some xx→Chg (fun b=>EN k=true∧b=g) w4 w'→ ∀i:Int,i=(j:Nat)→At w' g (0+i.toNat*6) (seC xx):=fun k w' j xx hk hx hw i hi=>by
     have:=(o4.chg (mV seC) hw fun _ _ e=>by rw [hk] at e;cases e.1).at rfl rfl hx
     rw [Nat.zero_add,hi,Int.toNat_natCast];exact this
    (repeat' (first|refine bU rfl (pF (ak ?_))|refine bU rfl (Wq.sub rfl rfl (by omega) (by omega) (ak ?_))))
    refine bU rfl (rY (ak ?_))
    refine bU rfl (cu (cs:=seC (y)) (fun w' hw=>hat 9 w' ((a+S1'.length)) _ rfl hgp hw ((((a+S1'.length+1:Nat):Int)-1)) (by omega)) rfl (by rfl) (ak ?_))
    (repeat' (refine bU rfl (pF (ak ?_))))
    refine bU rfl (rY (ak ?_))
    refine bU rfl (cu (cs:=seC (x)) (fun w' hw=>hat 13 w' ((a+S1'.length)+1) _ rfl hgq hw (((a+S1'.length+1:Nat):Int)) (by omega)) rfl (by rfl) (ak ?_))
    refine bU rfl (rY (ak ?_))
    refine iC rfl (fD (f:=seC) (q:=y) (j:=(a+S1'.length)+1) (sz:=6) (cap:=cap) (fun _=>rfl) EM (o4.new (mV seC) n20) (by rw [hll]) (by rw [hll];omega) (by show Value.pointer (some ⟨g,0+(((a+S1'.length+1:Nat):Int):Int).toNat*6,none⟩)=_;rw [show (((a+S1'.length+1:Nat):Int):Int).toNat=(a+S1'.length)+1 by omega,Nat.zero_add]) rfl rfl fun w21 o21 c21=>?_)
    have KU:Chg (fun k=>k=g) w4 w21:=Chg.trans n20.any c21 fun k _ e=>by injection e with e;exact e.symm
    refine af ⟨rfl,fun j hj=>KU.mono fun k _ e=>⟨iF (N:=18) (p:=EN) (by kernel_rfl) (fun j hj=>decide_eq_true (.inr (by omega))) (fun j hj=>decide_eq_true (.inr (by omega))) hj,e⟩,?_⟩
    refine bU rfl (rY (ak ?_))
    refine Wu.last rfl (fD (f:=seC) (q:=x) (j:=(a+S1'.length)) (sz:=6) (cap:=cap) (fun _=>rfl) EM o21 (by rw [List.length_set,hll]) (by rw [List.length_set,hll];omega) (by show Value.pointer (some ⟨g,0+((((a+S1'.length+1:Nat):Int)-1):Int).toNat*6,none⟩)=_;rw [show ((((a+S1'.length+1:Nat):Int)-1):Int).toNat=(a+S1'.length) by omega,Nat.zero_add]) rfl rfl fun w22 o22 c22=>?_)
    rw [G9 (by omega)] at o22
    have Tz:Chg (fun k=>k=g) w4 w22:=Chg.trans KU c22 fun k _ e=>by injection e with e;exact e.symm
    refine af ?_
    (repeat' (first|refine aa0 ?_|refine aa1 ?_|refine af ?_|refine ah ?_|refine ai ?_|refine aJ ?_|refine Aq ?_))
    refine aK (S1',y::S2) ⟨rfl,rfl,rfl,rfl,rfl,by show vi (((a+S1'.length+1:Nat):Int)-1)=vi ((a+S1'.length:Nat):Int);congr 1;omega,trivial⟩ ⟨by rw [hEs];simp,fun q hq=>?_,by simpa using o22,Chg.trans c4 Tz fun _ _ e=>e⟩ (by dsimp only;rw [List.length_concat];omega)
    rcases List.mem_cons.1 hq with rfl|hq
    ·exact .inl hk
    ·exact hS2 q hq
   ·have hz0: ¬z<0:=fun e=>hk (hz.1 e)
    (repeat' (first|refine dm ?_|refine dn rfl rfl ?_|refine aa2 (dM rfl (by conv=>{lhs;whnf}) (ak ?_))|(refine aa2 (eH rfl rfl (fun _=>ak ?_) (fun _=>ak ?_))<;>(first|(exfalso;omega)|skip))))
    (repeat' (first|refine aa0 ?_|refine aa1 ?_|refine af ?_|refine ah ?_|refine ai ?_|refine aQ ?_|refine aS ?_|refine aJ ?_|refine aP ?_|refine aT ?_|refine aa4 ?_|refine aa7 ?_))
    refine aK (i+1,S1'.concat y++ [x]++S2) ⟨rfl,rfl,rfl,rfl,rfl,trivial⟩ (hfin w4 (fun q hq=>?_) (by rw [hlist];exact o4) c4) (by dsimp only;omega)
    have hq':y=q:=by simpa using hq
    subst hq'
    exact (Tv (hlt y hyE).1).2 (decide_eq_false hk)
 ·have hSi:S.length≤i-a:=by omega
  rw [List.take_of_length_le hSi] at hE
  rw [List.drop_of_length_le hSi,List.append_nil] at oW
  exact dI rfl ⟨_,rfl,E,hE,hsE,oW,cW⟩
end
end Go.Proofs.YtjecgaiaiophpaaGreatDoor
namespace Go.Proofs.YtjecgaiaiophpaaGreatDoor
open Go Wk Sy
open Go.RowKit (Below)
attribute [local irreducible] Go.Calls
theorem Jl {a:Int} {n:Nat} (h:a=(n:Nat)) (hn:n≤8000000000):(IntKind.u64.wrap a).fdiv (2^(min (1:Int).toNat IntKind.u64.bits))=((n / 2:Nat):Int):=by
 subst h
 have e:IntKind.u64.wrap ((n:Nat):Int)=(n:Nat):=by simp [IntKind.wrap,IntKind.bits,IntKind.signed];omega
 rw [e]
 have e2:(2:Int)^(min (1:Int).toNat IntKind.u64.bits)=2:=rfl
 rw [e2,Int.fdiv_eq_ediv_of_nonneg _ (by omega)]
 omega
theorem Jm {n:Nat} (hn:n≤8000000000):IntKind.i64.wrap ((n:Nat):Int)=(n:Nat):=by simp [IntKind.wrap,IntKind.bits,IntKind.signed];omega
section
variable {Pb:Nat→Prop} {w:World} {g cap L:Nat} {cf:FuncId} {cc:Array Value} {key:SE→Nm} {Pd:SE→Prop} [hcf:mX Tryz.prog cf]
theorem Nw {a m b:Nat} {X R Z D:List SE} {x:SE} (pre:Pre (ltE key) (cpE key) D a m b X [x] R Z) (hL:D.length=L) (own:qP Pb w (.slice (some ⟨g,0,none⟩) L cap) D) (hR0:0<R.length) (hP: ∀y∈ [x]++R,Pd y) (hc:DT cf cc key Pd g w) (hl:L≤2000000000):
 Calls Tryz.prog 235 #[.slice (some ⟨g,0,none⟩) L cap,vi a,vi m,vi b,.func (.func cf) #[] cc] w (Ret fun _ w'=> ∃D',Post (ltE key) X [x] R Z D'∧qP Pb w' (.slice (some ⟨g,0,none⟩) L cap) D'∧Chg (fun k=>k=g) w w'):=by
 have ham:a+1=m:=pre.l
 have hmb:=pre.r
 have hXl:=pre.x
 have hbL:b≤L:=by rw [←hL,pre.e];simp only [List.length_append,List.length_singleton];omega
 have hDa:D[a]? =some x:=by rw [pre.Mc (Nat.le_refl a) (by omega)];simp
 refine mQ Tryz.func235 rfl Tryz.ntmps235 rfl ?_
 (repeat' (first|refine aa0 ?_|refine aa1 ?_|refine af ?_|refine ah ?_|refine aj ?_|refine ai ?_|refine Wc.block ?_|refine aa3 ?_|refine Aq ?_|(refine bV rfl rfl (fun _=>?_) (fun _=>?_)<;>(first|(exfalso;omega)|skip))))
 refine aU (σ:=Nat×Nat) (fun q=>[(0,(.slice (some ⟨g,0,none⟩) L cap)),(1,vi a),(4,.func (.func cf) #[] cc),(10,vi q.1),(11,vi q.2)]) (fun q W=>m≤q.1∧q.1≤q.2∧q.2≤b∧(q.1=m∨ ∃y,D[q.1-1]? =some y∧ltE key y x)∧(q.2=b∨ ∃y,D[q.2]? =some y∧ltE key x y)∧New w W) (fun q=>q.2-q.1) (m,b)
  ⟨rfl,rfl,rfl,rfl,rfl,trivial⟩ ⟨Nat.le_refl _,by omega,Nat.le_refl _,.inl rfl,.inl rfl,aV _ _⟩ ?_
 rintro ⟨i,j⟩ G W ⟨hmi,hij,hjb,g1,g2,n1⟩
 dsimp only at hmi hij hjb g1 g2 n1
 simp only [oO]
 (repeat' (first|refine aa0 ?_|refine aa1 ?_|refine af ?_|refine ah ?_|refine aj ?_|refine ai ?_|refine Wc.block ?_|refine Wc.skip ?_|refine aQ ?_|refine aS ?_|refine aP ?_|refine aT ?_|refine aa3 ?_|refine aa4 ?_|refine aa7 ?_|refine dP rfl ?_|refine aa9 (fun _=>?_) (fun _=>?_)))
 ·refine ig rfl rfl (by omega) ?_
  rw [Jl (n:=i+j) (by push_cast;rfl) (by omega)]
  refine dP rfl ?_
  rw [Jm (by omega)]
  (repeat' (first|refine aa1 ?_|refine af ?_|refine ah ?_|refine aj ?_))
  have hh:i≤(i+j) / 2∧(i+j) / 2<j:=by omega
  generalize hhe:(i+j) / 2=h at hh ⊢
  obtain ⟨y,hy⟩:=nN R (k:=h-m) (by omega)
  have hDh:D[h]? =some y:=by rw [pre.Md (by omega) (by omega)];exact hy
  have hyR:=List.mem_of_getElem? hy
  have hxP:=hP x (by simp)
  have hyP:=hP y (by simp [hyR])
  have hcr:=pre.cr y hyR x (by simp)
  have o1:=own.new (mV seC) n1
  have Gj: ∀(w':World) (j:Nat) (xx:SE),(D)[j]? =some xx→New W w'→ ∀i:Int,i=(j:Nat)→At w' g (0+i.toNat*6) (seC xx):=fun w' j xx hx hw i hi=>by
   have:=(o1.new (mV seC) hw).at rfl rfl hx
   rw [Nat.zero_add,hi,Int.toNat_natCast];exact this
  refine cO rfl (by kernel_rfl) (fun w'=>New W w') (Chg.drew _ _) ?_
  intro w3 n3
  (repeat' (refine aa2 (pF (ak ?_))))
  refine aa2 (rY (ak ?_))
  skip
  refine aa2 (cu (cs:=seC y) (fun w' hw=>Gj w' (h) _ hDh hw ((h:Nat):Int) (by omega)) rfl (by rfl) (ak ?_))
  (repeat' (refine aa2 (pF (ak ?_))))
  refine aa2 (rY (ak ?_))
  skip
  refine aa2 (cu (cs:=seC x) (fun w' hw=>Gj w' (a) _ hDa hw ((a:Nat):Int) (by omega)) rfl (by rfl) (ak ?_))
  skip
  refine bC rfl (dG (dst:=some 49) rfl (hc w3 (New.any (New.trans n1 n3)) y x hyP hxP) rfl ?_)
  rintro _ w4 ⟨⟨z,rfl,hz⟩,n4⟩
  have n24:=New.trans n3 n4
  have n04:=New.trans n1 n24
  simp only [zy]
  refine af ⟨rfl,n24,?_⟩
  by_cases hk:key y<key x
  ·have hz0:=hz.2 hk
   (repeat' (first|refine dm ?_|(refine aa2 (eH rfl rfl (fun _=>ak ?_) (fun _=>ak ?_))<;>(first|(exfalso;omega)|skip))))
   (repeat' (first|refine aa0 ?_|refine aa1 ?_|refine af ?_|refine ah ?_|refine ai ?_|refine aJ ?_|refine aa3 ?_|refine aa7 ?_))
   exact aK (h+1,j) ⟨rfl,rfl,rfl,rfl,rfl,trivial⟩ ⟨by dsimp only;omega,by dsimp only;omega,hjb,.inr ⟨y,by rw [Nat.add_sub_cancel];exact hDh,hcr.1 (decide_eq_true hk)⟩,g2,n04⟩ (by dsimp only;omega)
  ·have hz0: ¬z<0:=fun e=>hk (hz.1 e)
   (repeat' (first|refine dm ?_|(refine aa2 (eH rfl rfl (fun _=>ak ?_) (fun _=>ak ?_))<;>(first|(exfalso;omega)|skip))))
   (repeat' (first|refine aa0 ?_|refine aa1 ?_|refine af ?_|refine ah ?_|refine ai ?_|refine aJ ?_|refine aa4 ?_))
   exact aK (i,h) ⟨rfl,rfl,rfl,rfl,rfl,trivial⟩ ⟨hmi,by dsimp only;omega,by dsimp only;omega,g1,.inr ⟨y,hDh,hcr.2 (decide_eq_false hk)⟩,n04⟩ (by dsimp only;omega)
 ·obtain rfl:i=j:=by omega
  obtain ⟨R1,R2,hR,hR1,hsr⟩:=pre.left1 (Jk key) hmi hjb g1 g2
  have o1:=own.new (mV seC) n1
  rw [pre.e,hR] at o1
  have hD:=congrArg List.length pre.e
  rw [hR] at hD
  refine aU (σ:=Nat) (fun q=>[(0,(.slice (some ⟨g,0,none⟩) L cap)),(10,vi i),(13,vi q)]) (fun q W=>a≤q∧q+1≤i∧qP Pb W (.slice (some ⟨g,0,none⟩) L cap) (X++R1.take (q-a)++ [x]++(R1.drop (q-a)++R2++Z))∧Chg (fun k=>k=g) w W) (fun q=>i-q) a
   ⟨rfl,rfl,rfl,trivial⟩ ⟨Nat.le_refl _,by omega,by simpa using o1,n1.any⟩ ?_
  rintro k G2 W2 ⟨hak,hki,o2,c2⟩
  simp only [oO]
  (repeat' (first|refine aa0 ?_|refine af ?_|refine ah ?_|refine aj ?_|refine ai ?_|refine Wc.block ?_|refine Wc.skip ?_|refine aQ ?_|refine ax ?_|refine aS ?_|refine aN ?_|refine aP ?_|refine aT ?_|refine aa3 ?_|refine aa4 ?_|refine Aq ?_|refine aa9 (fun _=>?_) (fun _=>?_)))
  ·obtain ⟨q,hq⟩:=nN R1 (k:=k-a) (by omega)
   have hd:R1.drop (k-a)=q::R1.drop (k+1-a):=by rw [drop_cons hq,show k-a+1=k+1-a by omega]
   have hAk:(X++R1.take (k-a)).length=k:=by rw [List.length_append,List.length_take];omega
   have hlist:X++R1.take (k-a)++ [x]++(R1.drop (k-a)++R2++Z)=(X++R1.take (k-a))++ [x]++ [q]++(R1.drop (k+1-a)++R2++Z):=by rw [hd];simp
   rw [hlist] at o2
   have hll:((X++R1.take (k-a))++ [x]++ [q]++(R1.drop (k+1-a)++R2++Z)).length=L:=by
    rw [←hL,hD]
    simp only [List.length_append,List.length_singleton,List.length_take,List.length_drop]
    omega
   generalize hA:X++R1.take (k-a)=A at o2 hll hAk
   generalize hB:R1.drop (k+1-a)++R2++Z=B at o2 hll
   refine iD rfl (by kernel_rfl) (fun k w'=>Chg (fun b=>EN k=true∧b=g) W2 w') (fun k=>Chg.drew _ _) ?_
   intro w20 n20
   have hgp:(A++ [x]++ [q]++B)[k]? =some x:=by rw [List.append_assoc,List.append_assoc,List.getElem?_append_right (by omega),show k-(A).length=0 by omega];rfl
   have hgq:(A++ [x]++ [q]++B)[k+1]? =some q:=by rw [List.append_assoc,List.append_assoc,List.getElem?_append_right (by omega),show k+1-(A).length=1 by omega];rfl
   have hat: ∀(k:Nat) (w':World) (j:Nat) (xx:SE),EN k=false→(A++ [x]++ [q]++B)[j]? =some xx→Chg (fun b=>EN k=true∧b=g) W2 w'→ ∀i:Int,i=(j:Nat)→At w' g (0+i.toNat*6) (seC xx):=fun k w' j xx hk hx hw i hi=>by
    have:=(o2.chg (mV seC) hw fun _ _ e=>by rw [hk] at e;cases e.1).at rfl rfl hx
    rw [Nat.zero_add,hi,Int.toNat_natCast];exact this
   (repeat' (first|refine bU rfl (pF (ak ?_))|refine bU rfl (Wq.add rfl rfl (by omega) (by omega) (ak ?_))))
   refine bU rfl (rY (ak ?_))
   refine bU rfl (cu (cs:=seC (q)) (fun w' hw=>hat 9 w' (k+1) _ rfl hgq hw (((k:Nat):Int)+1) (by omega)) rfl (by rfl) (ak ?_))
   (repeat' (refine bU rfl (pF (ak ?_))))
   refine bU rfl (rY (ak ?_))
   refine bU rfl (cu (cs:=seC (x)) (fun w' hw=>hat 13 w' (k) _ rfl hgp hw (((k:Nat):Int)) (by omega)) rfl (by rfl) (ak ?_))
   refine bU rfl (rY (ak ?_))
   refine iC rfl (fD (f:=seC) (q:=q) (j:=k) (sz:=6) (cap:=cap) (fun _=>rfl) EM (o2.new (mV seC) n20) (by rw [hll]) (by rw [hll];omega) (by show Value.pointer (some ⟨g,0+(((k:Nat):Int):Int).toNat*6,none⟩)=_;rw [show (((k:Nat):Int):Int).toNat=k by omega,Nat.zero_add]) rfl rfl fun w21 o21 c21=>?_)
   have KU:Chg (fun k=>k=g) W2 w21:=Chg.trans n20.any c21 fun k _ e=>by injection e with e;exact e.symm
   refine af ⟨rfl,fun j hj=>KU.mono fun k _ e=>⟨iF (N:=18) (p:=EN) (by kernel_rfl) (fun j hj=>decide_eq_true (.inr (by omega))) (fun j hj=>decide_eq_true (.inr (by omega))) hj,e⟩,?_⟩
   refine bU rfl (rY (ak ?_))
   refine Wu.last rfl (fD (f:=seC) (q:=x) (j:=k+1) (sz:=6) (cap:=cap) (fun _=>rfl) EM o21 (by rw [List.length_set,hll]) (by rw [List.length_set,hll];omega) (by show Value.pointer (some ⟨g,0+(((k:Nat):Int)+1:Int).toNat*6,none⟩)=_;rw [show (((k:Nat):Int)+1:Int).toNat=k+1 by omega,Nat.zero_add]) rfl rfl fun w22 o22 c22=>?_)
   rw [Rx (by omega)] at o22
   have Tz:Chg (fun k=>k=g) W2 w22:=Chg.trans KU c22 fun k _ e=>by injection e with e;exact e.symm
   refine af ?_
   (repeat' (first|refine aa0 ?_|refine aa1 ?_|refine af ?_|refine ah ?_|refine ai ?_|refine aJ ?_|refine aa7 ?_))
   refine aK (k+1) ⟨rfl,rfl,rfl,trivial⟩ ⟨by omega,by omega,?_,Chg.trans c2 Tz fun _ _ e=>e⟩ (by omega)
   rw [show k+1-a=(k-a)+1 by omega,take_snoc hq, ←show k+1-a=(k-a)+1 by omega,hB, ←List.append_assoc X,hA]
   exact o22
  ·obtain rfl:i=k+1:=by omega
   rw [List.take_of_length_le (by omega),List.drop_of_length_le (by omega),List.nil_append] at o2
   exact fK rfl ⟨_,rfl,X++(R1++ [x]++R2)++Z,⟨R1++ [x]++R2,rfl,by rw [hR];simp,hsr⟩,by simpa using o2,c2⟩
end
end Go.Proofs.YtjecgaiaiophpaaGreatDoor
namespace Go.Proofs.YtjecgaiaiophpaaGreatDoor
open Go Wk Sy
open Go.RowKit (Below)
attribute [local irreducible] Go.Calls
section
variable {Pb:Nat→Prop} {w:World} {g cap L:Nat} {cf:FuncId} {cc:Array Value} {key:SE→Nm} {Pd:SE→Prop} [hcf:mX Tryz.prog cf]
theorem KW {a m b:Nat} {X Lf Z D:List SE} {x:SE} (pre:Pre (ltE key) (cpE key) D a m b X Lf [x] Z) (hL:D.length=L) (own:qP Pb w (.slice (some ⟨g,0,none⟩) L cap) D) (hR0:1<Lf.length) (hP: ∀y∈Lf++ [x],Pd y) (hc:DT cf cc key Pd g w) (hl:L≤2000000000):
 Calls Tryz.prog 235 #[.slice (some ⟨g,0,none⟩) L cap,vi a,vi m,vi b,.func (.func cf) #[] cc] w (Ret fun _ w'=> ∃D',Post (ltE key) X Lf [x] Z D'∧qP Pb w' (.slice (some ⟨g,0,none⟩) L cap) D'∧Chg (fun k=>k=g) w w'):=by
 have ham:=pre.l
 have hmb:m+1=b:=pre.r
 have hXl:=pre.x
 have hbL:b≤L:=by rw [←hL,pre.e];simp only [List.length_append,List.length_singleton];omega
 have hDm:D[m]? =some x:=by rw [pre.Md (Nat.le_refl m) (by omega)];simp
 refine mQ Tryz.func235 rfl Tryz.ntmps235 rfl ?_
 (repeat' (first|refine aa0 ?_|refine aa1 ?_|refine af ?_|refine ah ?_|refine aj ?_|refine ai ?_|refine Wc.block ?_|refine Wc.skip ?_|refine aa3 ?_|refine aa4 ?_|refine Aq ?_|(refine bV rfl rfl (fun _=>?_) (fun _=>?_)<;>(first|(exfalso;omega)|skip))))
 refine aU (σ:=Nat×Nat) (fun q=>[(0,(.slice (some ⟨g,0,none⟩) L cap)),(2,vi m),(4,.func (.func cf) #[] cc),(14,vi q.1),(15,vi q.2)]) (fun q W=>a≤q.1∧q.1≤q.2∧q.2≤m∧(q.1=a∨ ∃y,D[q.1-1]? =some y∧ltE key y x)∧(q.2=m∨ ∃y,D[q.2]? =some y∧ltE key x y)∧New w W) (fun q=>q.2-q.1) (a,m)
  ⟨rfl,rfl,rfl,rfl,rfl,trivial⟩ ⟨Nat.le_refl _,by omega,Nat.le_refl _,.inl rfl,.inl rfl,aV _ _⟩ ?_
 rintro ⟨i,j⟩ G W ⟨hmi,hij,hjb,g1,g2,n1⟩
 dsimp only at hmi hij hjb g1 g2 n1
 simp only [oO]
 (repeat' (first|refine aa0 ?_|refine aa1 ?_|refine af ?_|refine ah ?_|refine aj ?_|refine ai ?_|refine Wc.block ?_|refine Wc.skip ?_|refine aQ ?_|refine aS ?_|refine aP ?_|refine aT ?_|refine aa3 ?_|refine aa4 ?_|refine aa7 ?_|refine dP rfl ?_|refine aa9 (fun _=>?_) (fun _=>?_)))
 ·refine ig rfl rfl (by omega) ?_
  rw [Jl (n:=i+j) (by push_cast;rfl) (by omega)]
  refine dP rfl ?_
  rw [Jm (by omega)]
  (repeat' (first|refine aa1 ?_|refine af ?_|refine ah ?_|refine aj ?_))
  have hh:i≤(i+j) / 2∧(i+j) / 2<j:=by omega
  generalize hhe:(i+j) / 2=h at hh ⊢
  obtain ⟨y,hy⟩:=nN Lf (k:=h-a) (by omega)
  have hDh:D[h]? =some y:=by rw [pre.Mc (by omega) (by omega)];exact hy
  have hyR:=List.mem_of_getElem? hy
  have hxP:=hP x (by simp)
  have hyP:=hP y (by simp [hyR])
  have hcr:=pre.cr x (by simp) y hyR
  have o1:=own.new (mV seC) n1
  have Gj: ∀(w':World) (j:Nat) (xx:SE),(D)[j]? =some xx→New W w'→ ∀i:Int,i=(j:Nat)→At w' g (0+i.toNat*6) (seC xx):=fun w' j xx hx hw i hi=>by
   have:=(o1.new (mV seC) hw).at rfl rfl hx
   rw [Nat.zero_add,hi,Int.toNat_natCast];exact this
  refine cO rfl (by kernel_rfl) (fun w'=>New W w') (Chg.drew _ _) ?_
  intro w3 n3
  (repeat' (refine aa2 (pF (ak ?_))))
  refine aa2 (rY (ak ?_))
  skip
  refine aa2 (cu (cs:=seC x) (fun w' hw=>Gj w' (m) _ hDm hw ((m:Nat):Int) (by omega)) rfl (by rfl) (ak ?_))
  (repeat' (refine aa2 (pF (ak ?_))))
  refine aa2 (rY (ak ?_))
  skip
  refine aa2 (cu (cs:=seC y) (fun w' hw=>Gj w' (h) _ hDh hw ((h:Nat):Int) (by omega)) rfl (by rfl) (ak ?_))
  skip
  refine bC rfl (dG (dst:=some 101) rfl (hc w3 (New.any (New.trans n1 n3)) x y hxP hyP) rfl ?_)
  rintro _ w4 ⟨⟨z,rfl,hz⟩,n4⟩
  have n24:=New.trans n3 n4
  have n04:=New.trans n1 n24
  simp only [zy]
  refine af ⟨rfl,n24,?_⟩
  by_cases hk:key x<key y
  ·have hz0:=hz.2 hk
   (repeat' (first|refine dm ?_|refine aa2 (eG rfl (ak ?_))|(refine aa2 (eH rfl rfl (fun _=>ak ?_) (fun _=>ak ?_))<;>(first|(exfalso;omega)|skip))))
   (repeat' (first|refine aa0 ?_|refine aa1 ?_|refine af ?_|refine ah ?_|refine ai ?_|refine aJ ?_|refine aa4 ?_))
   exact aK (i,h) ⟨rfl,rfl,rfl,rfl,rfl,trivial⟩ ⟨hmi,by dsimp only;omega,by dsimp only;omega,g1,.inr ⟨y,hDh,hcr.1 (decide_eq_true hk)⟩,n04⟩ (by dsimp only;omega)
  ·have hz0: ¬z<0:=fun e=>hk (hz.1 e)
   (repeat' (first|refine dm ?_|refine aa2 (eG rfl (ak ?_))|(refine aa2 (eH rfl rfl (fun _=>ak ?_) (fun _=>ak ?_))<;>(first|(exfalso;omega)|skip))))
   (repeat' (first|refine aa0 ?_|refine aa1 ?_|refine af ?_|refine ah ?_|refine ai ?_|refine aJ ?_|refine aa3 ?_|refine aa7 ?_))
   exact aK (h+1,j) ⟨rfl,rfl,rfl,rfl,rfl,trivial⟩ ⟨by dsimp only;omega,by dsimp only;omega,hjb,.inr ⟨y,by rw [Nat.add_sub_cancel];exact hDh,hcr.2 (decide_eq_false hk)⟩,g2,n04⟩ (by dsimp only;omega)
 ·obtain rfl:i=j:=by omega
  obtain ⟨L1,L2,hR,hR1,hsr⟩:=pre.Wv (Jk key) hmi hjb g1 g2
  have o1:=own.new (mV seC) n1
  rw [pre.e,hR] at o1
  have hD:=congrArg List.length pre.e
  rw [hR] at hD
  have hLl:Lf.length=L1.length+L2.length:=by rw [hR,List.length_append]
  refine aU (σ:=Nat) (fun q=>[(0,(.slice (some ⟨g,0,none⟩) L cap)),(14,vi i),(17,vi q)]) (fun q W=>i≤q∧q≤m∧qP Pb W (.slice (some ⟨g,0,none⟩) L cap) (X++L1++L2.take (q-i)++ [x]++(L2.drop (q-i)++Z))∧Chg (fun k=>k=g) w W) (fun q=>q) m
   ⟨rfl,rfl,rfl,trivial⟩ ⟨by omega,Nat.le_refl _,by rw [List.take_of_length_le (by omega),List.drop_of_length_le (by omega)];simpa using o1,n1.any⟩ ?_
  rintro k0 G2 W2 ⟨hak,hki,o2,c2⟩
  simp only [oO]
  (repeat' (first|refine aa0 ?_|refine af ?_|refine ah ?_|refine aj ?_|refine ai ?_|refine Wc.block ?_|refine Wc.skip ?_|refine aQ ?_|refine ax ?_|refine aS ?_|refine aN ?_|refine aP ?_|refine aT ?_|refine aa3 ?_|refine aa4 ?_|refine bM rfl rfl (fun _=>?_) (fun _=>?_)))
  ·obtain ⟨k,rfl⟩: ∃j,k0=j+1:=⟨k0-1,by omega⟩
   obtain ⟨q,hq⟩:=nN L2 (k:=k-i) (by omega)
   have hd:L2.drop (k-i)=q::L2.drop (k+1-i):=by rw [drop_cons hq,show k-i+1=k+1-i by omega]
   have hAk:(X++L1++L2.take (k-i)).length=k:=by rw [List.length_append,List.length_append,List.length_take];omega
   have hlist:X++L1++L2.take (k+1-i)++ [x]++(L2.drop (k+1-i)++Z)=(X++L1++L2.take (k-i))++ [q]++ [x]++(L2.drop (k+1-i)++Z):=by rw [show k+1-i=(k-i)+1 by omega,take_snoc hq];simp
   rw [hlist] at o2
   have hll:((X++L1++L2.take (k-i))++ [q]++ [x]++(L2.drop (k+1-i)++Z)).length=L:=by
    rw [←hL,hD]
    simp only [List.length_append,List.length_singleton,List.length_take,List.length_drop]
    omega
   generalize hA:X++L1++L2.take (k-i)=A at o2 hll hAk
   generalize hB:L2.drop (k+1-i)++Z=B at o2 hll
   refine iD rfl (by kernel_rfl) (fun k w'=>Chg (fun b=>EN k=true∧b=g) W2 w') (fun k=>Chg.drew _ _) ?_
   intro w20 n20
   have hgp:(A++ [q]++ [x]++B)[k]? =some q:=by rw [List.append_assoc,List.append_assoc,List.getElem?_append_right (by omega),show k-(A).length=0 by omega];rfl
   have hgq:(A++ [q]++ [x]++B)[k+1]? =some x:=by rw [List.append_assoc,List.append_assoc,List.getElem?_append_right (by omega),show k+1-(A).length=1 by omega];rfl
   have hat: ∀(k:Nat) (w':World) (j:Nat) (xx:SE),EN k=false→(A++ [q]++ [x]++B)[j]? =some xx→Chg (fun b=>EN k=true∧b=g) W2 w'→ ∀i:Int,i=(j:Nat)→At w' g (0+i.toNat*6) (seC xx):=fun k w' j xx hk hx hw i hi=>by
    have:=(o2.chg (mV seC) hw fun _ _ e=>by rw [hk] at e;cases e.1).at rfl rfl hx
    rw [Nat.zero_add,hi,Int.toNat_natCast];exact this
   (repeat' (first|refine bU rfl (pF (ak ?_))|refine bU rfl (Wq.sub rfl rfl (by omega) (by omega) (ak ?_))))
   refine bU rfl (rY (ak ?_))
   refine bU rfl (cu (cs:=seC (q)) (fun w' hw=>hat 9 w' (k) _ rfl hgp hw ((((k+1:Nat):Int)-1)) (by omega)) rfl (by rfl) (ak ?_))
   (repeat' (refine bU rfl (pF (ak ?_))))
   refine bU rfl (rY (ak ?_))
   refine bU rfl (cu (cs:=seC (x)) (fun w' hw=>hat 13 w' (k+1) _ rfl hgq hw (((k+1:Nat):Int)) (by omega)) rfl (by rfl) (ak ?_))
   refine bU rfl (rY (ak ?_))
   refine iC rfl (fD (f:=seC) (q:=q) (j:=k+1) (sz:=6) (cap:=cap) (fun _=>rfl) EM (o2.new (mV seC) n20) (by rw [hll]) (by rw [hll];omega) (by show Value.pointer (some ⟨g,0+(((k+1:Nat):Int):Int).toNat*6,none⟩)=_;rw [show (((k+1:Nat):Int):Int).toNat=k+1 by omega,Nat.zero_add]) rfl rfl fun w21 o21 c21=>?_)
   have KU:Chg (fun k=>k=g) W2 w21:=Chg.trans n20.any c21 fun k _ e=>by injection e with e;exact e.symm
   refine af ⟨rfl,fun j hj=>KU.mono fun k _ e=>⟨iF (N:=18) (p:=EN) (by kernel_rfl) (fun j hj=>decide_eq_true (.inr (by omega))) (fun j hj=>decide_eq_true (.inr (by omega))) hj,e⟩,?_⟩
   refine bU rfl (rY (ak ?_))
   refine Wu.last rfl (fD (f:=seC) (q:=x) (j:=k) (sz:=6) (cap:=cap) (fun _=>rfl) EM o21 (by rw [List.length_set,hll]) (by rw [List.length_set,hll];omega) (by show Value.pointer (some ⟨g,0+((((k+1:Nat):Int)-1):Int).toNat*6,none⟩)=_;rw [show ((((k+1:Nat):Int)-1):Int).toNat=k by omega,Nat.zero_add]) rfl rfl fun w22 o22 c22=>?_)
   rw [G9 (by omega)] at o22
   have Tz:Chg (fun k=>k=g) W2 w22:=Chg.trans KU c22 fun k _ e=>by injection e with e;exact e.symm
   refine af ?_
   (repeat' (first|refine aa0 ?_|refine aa1 ?_|refine af ?_|refine ah ?_|refine ai ?_|refine aJ ?_|refine Aq ?_))
   refine aK k ⟨rfl,rfl,by show vi (((k+1:Nat):Int)-1)=vi ((k:Nat):Int);congr 1;omega,trivial⟩ ⟨by omega,by omega,?_,Chg.trans c2 Tz fun _ _ e=>e⟩ (by omega)
   rw [hd,hA,List.cons_append,hB]
   simpa using o22
  ·obtain rfl:i=k0:=by omega
   rw [Nat.sub_self,List.take_zero,List.drop_zero,List.append_nil] at o2
   exact fK rfl ⟨_,rfl,X++(L1++ [x]++L2)++Z,⟨L1++ [x]++L2,rfl,by rw [hR];simpa using List.Perm.append_left L1 (List.perm_append_comm (l₁:=[x]) (l₂:=L2)),hsr⟩,by simpa using o2,c2⟩
end
end Go.Proofs.YtjecgaiaiophpaaGreatDoor
namespace Go.Proofs.YtjecgaiaiophpaaGreatDoor
open Go Wk Sy
open Go.RowKit (Below)
attribute [local irreducible] Go.Calls
theorem O5 {α:Type} {lt:α→α→Prop} {cp:α→α→Bool} {Lf R L1 R1 D X Z:List α} {a m b:Nat} (hc: ∀y∈R, ∀x∈Lf,(cp y x=true→lt y x)∧(cp y x=false→lt x y)) (sl:Srt lt Lf) (sr:Srt lt R) (h1:L1.Sublist Lf) (h2:R1.Sublist R) (e:D=X++L1++R1++Z) (hx:X.length=a) (hm:a+L1.length=m) (hb:m+R1.length=b):Pre lt cp D a m b X L1 R1 Z:=
 ⟨e,hx,hm,hb,sl.sublist h1,sr.sublist h2,fun y hy x hx=>hc y (h2.subset hy) x (h1.subset hx)⟩
section
variable {Pb:Nat→Prop} {g cap L:Nat} {cf:FuncId} {cc:Array Value} {key:SE→Nm} {Pd:SE→Prop} [hcf:mX Tryz.prog cf]
theorem AQ (hl:L≤2000000000): ∀(n:Nat) {w:World} {a m b:Nat} {X Lf R Z D:List SE},b-a≤n→Pre (ltE key) (cpE key) D a m b X Lf R Z→D.length=L→qP Pb w (.slice (some ⟨g,0,none⟩) L cap) D→0<Lf.length→0<R.length→(∀y∈Lf++R,Pd y)→DT cf cc key Pd g w→
 Calls Tryz.prog 235 #[.slice (some ⟨g,0,none⟩) L cap,vi a,vi m,vi b,.func (.func cf) #[] cc] w (Ret fun _ w'=> ∃D',Post (ltE key) X Lf R Z D'∧qP Pb w' (.slice (some ⟨g,0,none⟩) L cap) D'∧Chg (fun k=>k=g) w w')
 |0,w,a,m,b,X,Lf,R,Z,D,hn,pre,hL,own,hL0,hR0,hP,hc=>by
  have:=pre.l
  have:=pre.r
  omega
 |n+1,w,a,m,b,X,Lf,R,Z,D,hn,pre,hL,own,hL0,hR0,hP,hc=>by
  have ham:=pre.l
  have hmb:=pre.r
  have hXl:=pre.x
  have hbL:b≤L:=by rw [←hL,pre.e];simp only [List.length_append];omega
  by_cases hl1:Lf.length=1
  ·obtain ⟨x,rfl⟩:=List.length_eq_one_iff.1 hl1
   exact Nw pre hL own hR0 hP hc hl
  by_cases hr1:R.length=1
  ·obtain ⟨x,rfl⟩:=List.length_eq_one_iff.1 hr1
   exact KW pre hL own (by omega) hP hc hl
  have ih:= @AQ hl n
  refine mQ Tryz.func235 rfl Tryz.ntmps235 rfl ?_
  (repeat' (first|refine aa0 ?_|refine af ?_|refine ah ?_|refine aj ?_|refine ai ?_|refine Wc.skip ?_|refine aa4 ?_|refine aa7 ?_|refine Aq ?_|refine dP rfl ?_|(refine bV rfl rfl (fun _=>?_) (fun _=>?_)<;>(first|(exfalso;omega)|skip))))
  refine ig rfl rfl (by omega) ?_
  rw [Jl (n:=a+b) (by push_cast;rfl) (by omega)]
  refine dP rfl ?_
  rw [Jm (by omega)]
  generalize hmid:(a+b) / 2=mid
  (repeat' (first|refine aa1 ?_|refine af ?_|refine ah ?_))
  refine aj ?_
  (repeat' (first|refine aa0 ?_|refine aa1 ?_|refine af ?_|refine ah ?_|refine ai ?_|refine aa7 ?_))
  refine aj ?_
  (repeat' (first|refine aa1 ?_|refine af ?_|refine ah ?_|refine ai ?_))
  refine eY (fun F W=> ∃s0 r0:Nat,agrees F [(0,(.slice (some ⟨g,0,none⟩) L cap)),(1,vi a),(2,vi m),(3,vi b),(4,.func (.func cf) #[] cc),(18,vi mid),(19,vi ((mid+m:Nat):Int)),(20,vi s0),(21,vi r0)]∧w=W∧(if mid<m then s0=mid+m-b∧r0=mid else s0=a∧r0=m)) ?_ ?_
  ·(repeat' (first|refine aa0 ?_|refine aa1 ?_|refine af ?_|refine ah ?_|refine aj ?_|refine ai ?_|refine aa3 ?_|refine aa4 ?_|refine Aq ?_|refine bM rfl rfl (fun _=>?_) (fun _=>?_)))
   ·exact dw ⟨mid+m-b,mid,⟨rfl,rfl,rfl,rfl,rfl,rfl,by show vi ((mid:Int)+m)=vi ((mid+m:Nat):Int);congr 1,by show vi ((mid:Int)+m-b)=vi ((mid+m-b:Nat):Int);congr 1;omega,rfl,trivial⟩,rfl,by rw [if_pos (by omega)];exact ⟨rfl,rfl⟩⟩
   ·exact dw ⟨a,m,⟨rfl,rfl,rfl,rfl,rfl,rfl,by show vi ((mid:Int)+m)=vi ((mid+m:Nat):Int);congr 1,rfl,rfl,trivial⟩,rfl,by rw [if_neg (by omega)];exact ⟨rfl,rfl⟩⟩
  rintro F W ⟨s0,r0,hF,rfl,h0⟩
  rw [←oD hF]
  simp only [oO]
  clear hF
  have hb0:s0≤r0∧r0≤m∧r0≤mid∧a≤s0∧mid+m≤b+s0:=by split at h0<;>omega
  (repeat' (first|refine aa0 ?_|refine aa1 ?_|refine af ?_|refine ah ?_|refine aj ?_|refine ai ?_|refine Wc.block ?_|refine Aq ?_))
  refine aU (σ:=Nat×Nat) (fun q=>[(0,(.slice (some ⟨g,0,none⟩) L cap)),(1,vi a),(2,vi m),(3,vi b),(4,.func (.func cf) #[] cc),(18,vi mid),(19,vi ((mid+m:Nat):Int)),(20,vi q.1),(21,vi q.2),(22,vi ((mid+m-1:Nat):Int))]) (fun q W=>s0≤q.1∧q.1≤q.2∧q.2≤r0∧(q.1=s0∨ ∃x y,D[q.1-1]? =some x∧D[mid+m-1-(q.1-1)]? =some y∧ltE key x y)∧(q.2=r0∨ ∃x y,D[q.2]? =some x∧D[mid+m-1-q.2]? =some y∧ltE key y x)∧New w W) (fun q=>q.2-q.1) (s0,r0)
   ⟨rfl,rfl,rfl,rfl,rfl,rfl,rfl,rfl,rfl,by show vi (((mid+m:Nat):Int)-1)=vi ((mid+m-1:Nat):Int);congr 1;omega,trivial⟩ ⟨Nat.le_refl _,by omega,Nat.le_refl _,.inl rfl,.inl rfl,aV _ _⟩ ?_
  rintro ⟨i,j⟩ G W ⟨hmi,hij,hjb,g1,g2,n1⟩
  dsimp only at hmi hij hjb g1 g2 n1
  simp only [oO]
  refine aj ?_
  refine aj ?_
  (repeat' (first|refine aa0 ?_|refine af ?_|refine ah ?_|refine ai ?_|refine Wc.skip ?_|refine aQ ?_|refine aS ?_|refine aP ?_|refine aT ?_|refine aa3 ?_|refine aa4 ?_|refine aa9 (fun _=>?_) (fun _=>?_)))
  ·(repeat' (first|refine aa0 ?_|refine aj ?_|refine ai ?_|refine Wc.block ?_|refine aa7 ?_|refine dP rfl ?_))
   refine ig rfl rfl (by omega) ?_
   rw [Jl (n:=i+j) (by push_cast;rfl) (by omega)]
   refine dP rfl ?_
   rw [Jm (by omega)]
   (repeat' (first|refine aa1 ?_|refine af ?_|refine ah ?_|refine aj ?_))
   have hh:i≤(i+j) / 2∧(i+j) / 2<j:=by omega
   generalize hhe:(i+j) / 2=h at hh ⊢
   obtain ⟨x,hx⟩:=nN Lf (k:=h-a) (by omega)
   obtain ⟨y,hy⟩:=nN R (k:=mid+m-1-h-m) (by omega)
   have hDx:D[h]? =some x:=by rw [pre.Mc (by omega) (by omega)];exact hx
   have hDy:D[mid+m-1-h]? =some y:=by rw [pre.Md (by omega) (by omega)];exact hy
   have hxR:=List.mem_of_getElem? hx
   have hyR:=List.mem_of_getElem? hy
   have hxP:=hP x (by simp [hxR])
   have hyP:=hP y (by simp [hyR])
   have hcr:=pre.cr y hyR x hxR
   have o1:=own.new (mV seC) n1
   have Gj: ∀(w':World) (j:Nat) (xx:SE),(D)[j]? =some xx→New W w'→ ∀i:Int,i=(j:Nat)→At w' g (0+i.toNat*6) (seC xx):=fun w' j xx hx hw i hi=>by
    have:=(o1.new (mV seC) hw).at rfl rfl hx
    rw [Nat.zero_add,hi,Int.toNat_natCast];exact this
   refine cO rfl (by kernel_rfl) (fun w'=>New W w') (Chg.drew _ _) ?_
   intro w3 n3
   (repeat' (first|refine aa2 (pF (ak ?_))|refine aa2 (Wq.sub rfl rfl (by omega) (by omega) (ak ?_))))
   refine aa2 (rY (ak ?_))
   skip
   refine aa2 (cu (cs:=seC y) (fun w' hw=>Gj w' (mid+m-1-h) _ hDy hw (((mid+m-1:Nat):Int)-(h:Nat)) (by omega)) rfl (by rfl) (ak ?_))
   (repeat' (refine aa2 (pF (ak ?_))))
   refine aa2 (rY (ak ?_))
   skip
   refine aa2 (cu (cs:=seC x) (fun w' hw=>Gj w' (h) _ hDx hw ((h:Nat):Int) (by omega)) rfl (by rfl) (ak ?_))
   skip
   refine bC rfl (dG (dst:=some 169) rfl (hc w3 (New.any (New.trans n1 n3)) y x hyP hxP) rfl ?_)
   rintro _ w4 ⟨⟨z,rfl,hz⟩,n4⟩
   have n24:=New.trans n3 n4
   have n04:=New.trans n1 n24
   simp only [zy]
   refine af ⟨rfl,n24,?_⟩
   by_cases hk:key y<key x
   ·have hz0:=hz.2 hk
    (repeat' (first|refine dm ?_|refine aa2 (eG rfl (ak ?_))|(refine aa2 (eH rfl rfl (fun _=>ak ?_) (fun _=>ak ?_))<;>(first|(exfalso;omega)|skip))))
    (repeat' (first|refine aa0 ?_|refine aa1 ?_|refine af ?_|refine ah ?_|refine ai ?_|refine aJ ?_|refine aa4 ?_))
    exact aK (i,h) ⟨rfl,rfl,rfl,rfl,rfl,rfl,rfl,rfl,rfl,rfl,trivial⟩ ⟨hmi,by dsimp only;omega,by dsimp only;omega,g1,.inr ⟨x,y,hDx,hDy,hcr.1 (decide_eq_true hk)⟩,n04⟩ (by dsimp only;omega)
   ·have hz0: ¬z<0:=fun e=>hk (hz.1 e)
    (repeat' (first|refine dm ?_|refine aa2 (eG rfl (ak ?_))|(refine aa2 (eH rfl rfl (fun _=>ak ?_) (fun _=>ak ?_))<;>(first|(exfalso;omega)|skip))))
    (repeat' (first|refine aa0 ?_|refine aa1 ?_|refine af ?_|refine ah ?_|refine ai ?_|refine aJ ?_|refine aa3 ?_|refine aa7 ?_))
    exact aK (h+1,j) ⟨rfl,rfl,rfl,rfl,rfl,rfl,rfl,rfl,rfl,rfl,trivial⟩ ⟨by dsimp only;omega,by dsimp only;omega,hjb,.inr ⟨x,y,by rw [Nat.add_sub_cancel];exact hDx,by rw [Nat.add_sub_cancel];exact hDy,hcr.2 (decide_eq_false hk)⟩,g2,n04⟩ (by dsimp only;omega)
  ·obtain rfl:i=j:=by omega
   obtain ⟨L1,L2,R1,R2,ct,hL1,hR1,hL2,hR2,k1,k2,k3,k4,k5⟩:=pre.search (Jk key) (by omega) (by omega) hmid.symm h0 hmi hjb g1 g2
   have hLe:=ct.l
   have hRe:=ct.r
   have hLl:Lf.length=L1.length+L2.length:=by rw [hLe,List.length_append]
   have hRl:R.length=R1.length+R2.length:=by rw [hRe,List.length_append]
   have o1:=own.new (mV seC) n1
   have hD:=congrArg List.length pre.e
   rw [pre.e,hLe,hRe] at o1
   rw [hLe,hRe,hL] at hD
   simp only [List.length_append] at hD
   generalize he:mid+m-i=e at hL2 hR2 k4 k5
   refine aj ?_
   (repeat' (first|refine aa0 ?_|refine aa1 ?_|refine af ?_|refine ah ?_|refine ai ?_|refine Aq ?_))
   refine eY (fun F W=>agrees F [(0,(.slice (some ⟨g,0,none⟩) L cap)),(1,vi a),(3,vi b),(4,.func (.func cf) #[] cc),(18,vi mid),(20,vi i),(24,vi e)]∧qP Pb W (.slice (some ⟨g,0,none⟩) L cap) (X++L1++R1++L2++R2++Z)∧Chg (fun k=>k=g) w W) ?_ ?_
   ·have hei:((mid+m:Nat):Int)-i=(e:Nat):=by omega
    rw [hei]
    (repeat' (first|refine aa0 ?_|refine af ?_|refine aa6 ?_|refine qi ?_|refine pG ?_|refine pq ?_|refine ah ?_|refine aj ?_|refine ai ?_|refine Wc.skip ?_|refine aa3 ?_|refine aa4 ?_|refine aa9 (fun _=>?_) (fun _=>?_)))
    ·refine ay (KT (X:=X++L1) (U:=L2) (V:=R1) (Z:=R2++Z) (a:=i) (m:=m) (b:=e) (cv:=.func (.func cf) #[] cc) (by simp only [List.length_append];omega) (by simpa using o1) (by rw [List.length_append];omega) (by omega) (by omega) (by omega) (by omega) hl) rfl ?_
     rintro u w2 ⟨o2,c2⟩
     (repeat' (refine af ?_))
     exact dw ⟨⟨rfl,rfl,rfl,rfl,rfl,rfl,rfl,trivial⟩,by simpa using o2,Chg.trans n1.any c2 fun _ _ e=>e⟩
    ·obtain rfl:R1=[]:=List.length_eq_zero_iff.1 (by omega)
     exact dw ⟨⟨rfl,rfl,rfl,rfl,rfl,rfl,rfl,trivial⟩,by simpa using o1,n1.any⟩
    ·obtain rfl:L2=[]:=List.length_eq_zero_iff.1 (by omega)
     exact dw ⟨⟨rfl,rfl,rfl,rfl,rfl,rfl,rfl,trivial⟩,by simpa using o1,n1.any⟩
   rintro F W2 ⟨hF,o2,c2⟩
   rw [←oD hF]
   simp only [oO]
   clear hF
   refine eY (fun F W=> ∃E1,agrees F [(0,(.slice (some ⟨g,0,none⟩) L cap)),(3,vi b),(4,.func (.func cf) #[] cc),(18,vi mid),(24,vi e)]∧E1.Perm (L1++R1)∧Srt (ltE key) E1∧qP Pb W (.slice (some ⟨g,0,none⟩) L cap) (X++E1++L2++R2++Z)∧Chg (fun k=>k=g) w W) ?_ ?_
   ·have sl1:Srt (ltE key) L1:=pre.sl.sublist (by rw [hLe];exact List.sublist_append_left _ _)
    have sr1:Srt (ltE key) R1:=pre.sr.sublist (by rw [hRe];exact List.sublist_append_left _ _)
    (repeat' (first|refine aa0 ?_|refine af ?_|refine aa6 ?_|refine qi ?_|refine pG ?_|refine pq ?_|refine ah ?_|refine aj ?_|refine ai ?_|refine Wc.skip ?_|refine aa3 ?_|refine aa4 ?_|refine aa9 (fun _=>?_) (fun _=>?_)))
    ·refine ay (ih (a:=a) (m:=i) (b:=mid) (X:=X) (Lf:=L1) (R:=R1) (Z:=L2++R2++Z) (by omega) (O5 pre.cr pre.sl pre.sr (by rw [hLe];exact List.sublist_append_left _ _) (by rw [hRe];exact List.sublist_append_left _ _) rfl hXl (by omega) (by omega)) (by simp only [List.length_append];omega) (by simpa using o2) (by omega) (by omega) (fun y hy=>hP y (by rw [hLe,hRe];rcases List.mem_append.1 hy with h|h<;>simp [h])) (hc.chg c2)) rfl ?_
     rintro u w3 ⟨D',⟨E1,rfl,p1,s1⟩,o3,c3⟩
     (repeat' (refine af ?_))
     exact dw ⟨E1,⟨rfl,rfl,rfl,rfl,rfl,trivial⟩,p1,s1,by simpa using o3,Chg.trans c2 c3 fun _ _ e=>e⟩
    ·obtain rfl:R1=[]:=List.length_eq_zero_iff.1 (by omega)
     exact dw ⟨L1,⟨rfl,rfl,rfl,rfl,rfl,trivial⟩,by simp,sl1,by simpa using o2,c2⟩
    ·obtain rfl:L1=[]:=List.length_eq_zero_iff.1 (by omega)
     exact dw ⟨R1,⟨rfl,rfl,rfl,rfl,rfl,trivial⟩,by simp,sr1,by simpa using o2,c2⟩
   rintro F W3 ⟨E1,hF,p1,s1,o3,c3⟩
   rw [←oD hF]
   simp only [oO]
   clear hF
   have hE1:=p1.length_eq
   rw [List.length_append] at hE1
   have sl2:Srt (ltE key) L2:=pre.sl.sublist (by rw [hLe];exact List.sublist_append_right _ _)
   have sr2:Srt (ltE key) R2:=pre.sr.sublist (by rw [hRe];exact List.sublist_append_right _ _)
   (repeat' (first|refine aa0 ?_|refine af ?_|refine aa6 ?_|refine qi ?_|refine pG ?_|refine pq ?_|refine ah ?_|refine aj ?_|refine ai ?_|refine Wc.skip ?_|refine aa3 ?_|refine aa4 ?_|refine aa9 (fun _=>?_) (fun _=>?_)))
   ·refine ay (ih (a:=mid) (m:=e) (b:=b) (X:=X++E1) (Lf:=L2) (R:=R2) (Z:=Z) (by omega) (O5 pre.cr pre.sl pre.sr (by rw [hLe];exact List.sublist_append_right _ _) (by rw [hRe];exact List.sublist_append_right _ _) rfl (by rw [List.length_append];omega) (by omega) (by omega)) (by simp only [List.length_append];omega) (by simpa using o3) (by omega) (by omega) (fun y hy=>hP y (by rw [hLe,hRe];rcases List.mem_append.1 hy with h|h<;>simp [h])) (hc.chg c3)) rfl ?_
    rintro u w4 ⟨D',⟨E2,rfl,p2,s2⟩,o4,c4⟩
    (repeat' (refine af ?_))
    exact dI rfl ⟨_,rfl,_,ct.post p1 s1 p2 s2 (D':=X++E1++E2++Z) rfl,o4,Chg.trans c3 c4 fun _ _ e=>e⟩
   ·obtain rfl:R2=[]:=List.length_eq_zero_iff.1 (by omega)
    exact dI rfl ⟨_,rfl,_,ct.post p1 s1 (E2:=L2) (by simp) sl2 (D':=X++E1++L2++Z) rfl,by simpa using o3,c3⟩
   ·obtain rfl:L2=[]:=List.length_eq_zero_iff.1 (by omega)
    exact dI rfl ⟨_,rfl,_,ct.post p1 s1 (E2:=R2) (by simp) sr2 (D':=X++E1++R2++Z) rfl,by simpa using o3,c3⟩
end
end Go.Proofs.YtjecgaiaiophpaaGreatDoor
namespace Go.Proofs.YtjecgaiaiophpaaGreatDoor
open Go Wk Sy
def Chk (key:SE→Nm) (D0 D D':List SE) (a b:Nat):Prop:= ∃X E0 E Z,D=X++E0++Z∧D'=X++E++Z∧E.Perm E0∧X.length=a∧a+E.length=b∧Seg (ltE key) D0 D' a b
variable {key:SE→Nm} {D0 D D':List SE} {a b:Nat}
theorem Chk.len (h:Chk key D0 D D' a b):D'.length=D.length:=by
 obtain ⟨X,E0,E,Z,rfl,rfl,p,_⟩:=h
 simp [p.length_eq]
theorem Chk.mem (h:Chk key D0 D D' a b): ∀y∈D',y∈D:=by
 obtain ⟨X,E0,E,Z,rfl,rfl,p,_⟩:=h
 intro y hy
 simp only [List.mem_append] at hy ⊢
 rcases hy with (h|h)|h
 ·exact .inl (.inl h)
 ·exact .inl (.inr (p.mem_iff.1 h))
 ·exact .inr h
theorem Chk.left (h:Chk key D0 D D' a b): ∀u v,Seg (ltE key) D0 D u v→v≤a→Seg (ltE key) D0 D' u v:=by
 obtain ⟨X,E0,E,Z,rfl,rfl,p,rfl,_⟩:=h
 intro u v h hv
 unfold Seg at h ⊢
 rw [RD (E':=E0) hv];exact h
theorem Chk.right (h:Chk key D0 D D' a b): ∀u v,Seg (ltE key) D0 D u v→b≤u→Seg (ltE key) D0 D' u v:=by
 obtain ⟨X,E0,E,Z,rfl,rfl,p,rfl,hb,_⟩:=h
 intro u v h hu
 unfold Seg at h ⊢
 rw [PL (E':=E0) p.length_eq (by omega)];exact h
theorem Chk.seg (h:Chk key D0 D D' a b):Seg (ltE key) D0 D' a b:=by obtain ⟨X,E0,E,Z,_,_,_,_,_,h⟩:=h;exact h
theorem Chk.drop (h:Chk key D0 D D' a b):D'.drop b=D.drop b:=by
 obtain ⟨X,E0,E,Z,rfl,rfl,p,h1,h2,_⟩:=h
 have hp:=p.length_eq
 have q: ∀A:List SE,A.length=b→(A++Z).drop b=Z:=fun A h=>by rw [←h,List.drop_left]
 rw [q _ (by rw [List.length_append];omega),q _ (by rw [List.length_append];omega)]
theorem zk.put {B j hi:Nat} (h:zk (ltE key) D0 D B 0 a) (ha:a=j*B) (c: ∀u v,Seg (ltE key) D0 D u v→v≤a→Seg (ltE key) D0 D' u v) (s:Seg (ltE key) D0 D' a (min (a+B) D0.length)) (hhi:hi≤a+B):zk (ltE key) D0 D' B 0 hi:=by
 intro k _ hk
 have hk2:k*B<(j+1)*B:=by rw [Nat.succ_mul];omega
 have hkj:k<j+1:=Nat.lt_of_mul_lt_mul_right hk2
 rcases Nat.lt_or_eq_of_le (Nat.le_of_lt_succ hkj) with h1|rfl
 ·have h2:(k+1)*B≤j*B:=Nat.mul_le_mul_right B h1
  have h3:k*B+B≤a:=by rw [Nat.succ_mul] at h2;omega
  by_cases hB:B=0
  ·subst hB;omega
  refine c _ _ (h k (Nat.zero_le _) (by omega)) ?_
  rw [Nat.succ_mul];omega
 ·rw [Nat.succ_mul, ←ha];exact s
theorem zk.rest {B lo lo' hi:Nat} (h:zk (ltE key) D0 D B lo hi) (hlo:lo≤lo') (c: ∀u v,Seg (ltE key) D0 D u v→lo'≤u→Seg (ltE key) D0 D' u v):zk (ltE key) D0 D' B lo' hi:=fun k h1 h2=>c _ _ (h k (Nat.le_trans hlo h1) h2) h1
theorem KX {α:Type} (l:List α) {a m b:Nat} (h1:a≤m) (h2:m≤b):(l.drop a).take (m-a)++(l.drop m).take (b-m)=(l.drop a).take (b-a):=by
 rw [show b-a=(m-a)+(b-m) by omega,List.take_add,List.drop_drop,show a+(m-a)=m by omega]
theorem O6 {α:Type} {l:List α} {u v:Nat} {x:α} (h:x∈(l.drop u).take (v-u)): ∃i,u≤i∧i<v∧l[i]? =some x:=by
 obtain ⟨i,hi⟩:=List.mem_iff_getElem?.1 h
 rw [List.getElem?_take] at hi
 split at hi
 ·rename_i h1
  rw [List.getElem?_drop] at hi
  exact ⟨u+i,by omega,by omega,hi⟩
 ·cases hi
theorem Xg {D0:List SE} (hix:D0.Pairwise fun x y=>x.2<y.2) {i j:Nat} {x y:SE} (h:i<j) (hx:D0[i]? =some x) (hy:D0[j]? =some y):x.2<y.2:=by
 obtain ⟨h1,rfl⟩:=List.getElem?_eq_some_iff.1 hx
 obtain ⟨h2,rfl⟩:=List.getElem?_eq_some_iff.1 hy
 exact List.pairwise_iff_getElem.1 hix i j h1 h2 h
theorem Qz {m:Nat} (hix:D0.Pairwise fun x y=>x.2<y.2) (h1:a≤m) (h2:m≤b) (h3:b≤D.length) (s1:Seg (ltE key) D0 D a m) (s2:Seg (ltE key) D0 D m b):
 ∃X Lf R Z,Pre (ltE key) (cpE key) D a m b X Lf R Z∧Lf.length=m-a∧R.length=b-m∧(∀y∈Lf++R,y∈D)∧ ∀D',Post (ltE key) X Lf R Z D'→Chk key D0 D D' a b:=by
 have e:D=D.take a++(D.drop a).take (m-a)++(D.drop m).take (b-m)++D.drop b:=by
  obtain ⟨e1, -, -⟩:=Rz D (u:=a) (v:=b) (by omega) h3
  rw [List.append_assoc (D.take a),KX D h1 h2];exact e1
 have l0:(D.take a).length=a:=by rw [List.length_take];omega
 have l1:((D.drop a).take (m-a)).length=m-a:=by rw [List.length_take,List.length_drop];omega
 have l2:((D.drop m).take (b-m)).length=b-m:=by rw [List.length_take,List.length_drop];omega
 refine ⟨D.take a,(D.drop a).take (m-a),(D.drop m).take (b-m),D.drop b,⟨e,l0,by omega,by omega,s1.2,s2.2,fun y hy x hx=>?_⟩,l1,l2,fun y hy=>by rw [e];simp only [List.mem_append] at hy ⊢;rcases hy with h|h;exact .inl (.inl (.inr h));exact .inl (.inr h),?_⟩
 ·obtain ⟨i,_,hi,hx0⟩:=O6 (s1.1.mem_iff.1 hx)
  obtain ⟨j,hj,_,hy0⟩:=O6 (s2.1.mem_iff.1 hy)
  exact Tv (Xg hix (by omega) hx0 hy0)
 ·rintro D' ⟨E,rfl,hp,hs⟩
  have hE:=hp.length_eq
  rw [List.length_append,l1,l2] at hE
  refine ⟨_,(D.drop a).take (m-a)++(D.drop m).take (b-m),E,_,by rw [←List.append_assoc];exact e,rfl,hp,l0,by omega,?_⟩
  unfold Seg
  rw [Ry l0 (by omega)]
  exact ⟨hp.trans (by rw [←KX D0 h1 h2];exact s1.1.append s2.1),hs⟩
theorem Ny {X S E Z:List SE} (hX:X.length=a) (hS:a+S.length=b) (hD:(D0.drop a).take (b-a)=S) (hp:E.Perm S) (hs:Srt (ltE key) E):Chk key D0 (X++S++Z) (X++E++Z) a b:=by
 have:=hp.length_eq
 refine ⟨X,S,E,Z,rfl,rfl,hp,hX,by omega,?_⟩
 unfold Seg
 rw [Ry hX (by omega),hD]
 exact ⟨hp,hs⟩
end Go.Proofs.YtjecgaiaiophpaaGreatDoor
namespace Go.Proofs.YtjecgaiaiophpaaGreatDoor
open Go Wk Sy
open Go.RowKit (Below)
attribute [local irreducible] Go.Calls
section
variable {Pb:Nat→Prop} {w:World} {g cap L:Nat} {cf:FuncId} {cc:Array Value} {key:SE→Nm} {Pd:SE→Prop} [hcf:mX Tryz.prog cf]
theorem AU {w:World} {a b:Nat} {D0 D:List SE} (hix:D0.Pairwise fun x y=>x.2<y.2) (hd:D.drop a=D0.drop a) (hab:a≤b) (hbL:b≤L) (hL:D.length=L) (own:qP Pb w (.slice (some ⟨g,0,none⟩) L cap) D) (hP: ∀y∈D,Pd y) (hc:DT cf cc key Pd g w) (hl:L≤2000000000):
 Calls Tryz.prog 234 #[.slice (some ⟨g,0,none⟩) L cap,vi a,vi b,.func (.func cf) #[] cc] w (Ret fun _ w'=> ∃D',Chk key D0 D D' a b∧qP Pb w' (.slice (some ⟨g,0,none⟩) L cap) D'∧Chg (fun k=>k=g) w w'):=by
 obtain ⟨e,h1,h2⟩:=Rz D hab (by omega:b≤D.length)
 rw [e] at own
 have hs:((D.drop a).take (b-a)).Pairwise fun x y=>x.2<y.2:=by
  rw [hd]
  exact (hix.sublist (List.drop_sublist _ _)).sublist (List.take_sublist _ _)
 refine (Gi (a:=a) (b:=b) (by rw [←e];exact hL) own h1 (by omega) hs (fun x hx=>hP x (List.mem_of_mem_drop (List.mem_of_mem_take hx))) hc hl).mono ?_
 rintro _ w' ⟨_,rfl,E,hp,hs,o,c⟩
 refine ⟨_,rfl,_,?_,o,c⟩
 have:=Ny (D0:=D0) (b:=b) (Z:=D.drop b) h1 (by omega) (by rw [hd]) hp hs
 rw [←e] at this
 exact this
theorem Ig {w:World} {a m b:Nat} {D0 D:List SE} (hix:D0.Pairwise fun x y=>x.2<y.2) (s1:Seg (ltE key) D0 D a m) (s2:Seg (ltE key) D0 D m b) (h1:a<m) (h2:m<b) (hbL:b≤L) (hL:D.length=L) (own:qP Pb w (.slice (some ⟨g,0,none⟩) L cap) D) (hP: ∀y∈D,Pd y) (hc:DT cf cc key Pd g w) (hl:L≤2000000000):
 Calls Tryz.prog 235 #[.slice (some ⟨g,0,none⟩) L cap,vi a,vi m,vi b,.func (.func cf) #[] cc] w (Ret fun _ w'=> ∃D',Chk key D0 D D' a b∧qP Pb w' (.slice (some ⟨g,0,none⟩) L cap) D'∧Chg (fun k=>k=g) w w'):=by
 obtain ⟨X,Lf,R,Z,pre,k1,k2,k3,k4⟩:=Qz hix (by omega) (by omega) (by omega:b≤D.length) s1 s2
 refine (AQ hl _ (Nat.le_refl _) pre hL own (by omega) (by omega) (fun y hy=>hP y (k3 y hy)) hc).mono ?_
 rintro _ w' ⟨_,rfl,D',hp,o,c⟩
 exact ⟨_,rfl,D',k4 D' hp,o,c⟩
theorem KY {D0:List SE} (hix:D0.Pairwise fun x y=>x.2<y.2) (hL:D0.length=L) (own:qP Pb w (.slice (some ⟨g,0,none⟩) L cap) D0) (hP: ∀y∈D0,Pd y) (hc:DT cf cc key Pd g w) (hl:L≤400000000):
 Calls Tryz.prog 190 #[.slice (some ⟨g,0,none⟩) L cap,vi L,.func (.func cf) #[] cc] w (Ret fun _ w'=> ∃E,E.Perm D0∧Srt (ltE key) E∧qP Pb w' (.slice (some ⟨g,0,none⟩) L cap) E∧Chg (fun k=>k=g) w w'):=by
 refine mQ Tryz.func190 rfl Tryz.ntmps190 rfl ?_
 (repeat' (first|refine aa0 ?_|refine aa1 ?_|refine af ?_|refine ah ?_|refine aj ?_|refine ai ?_|refine Wc.block ?_))
 refine aU (σ:=Nat×List SE) (fun q=>[(0,.slice (some ⟨g,0,none⟩) L cap),(1,vi L),(2,.func (.func cf) #[] cc),(6,vi (20:Nat)),(7,vi ((q.1*20:Nat):Int)),(8,vi ((q.1*20+20:Nat):Int))]) (fun q W=>q.1*20≤L∧q.2.length=L∧q.2.drop (q.1*20)=D0.drop (q.1*20)∧zk (ltE key) D0 q.2 20 0 (q.1*20)∧(∀y∈q.2,Pd y)∧qP Pb W (.slice (some ⟨g,0,none⟩) L cap) q.2∧Chg (fun k=>k=g) w W) (fun q=>L-q.1*20) (0,D0)
  ⟨rfl,rfl,rfl,rfl,rfl,rfl,trivial⟩ ⟨by simp,hL,rfl,fun k _ h=>by simp at h,hP,own,aV _ _⟩ ?_
 rintro ⟨j,D⟩ G W ⟨hj,hDl,hdr,hB,hPD,o1,c1⟩
 dsimp only at hj hDl hdr hB hPD o1 c1
 simp only [oO]
 refine aj ?_
 refine aj ?_
 (repeat' (first|refine aa0 ?_|refine af ?_|refine ah ?_|refine ai ?_|refine Wc.skip ?_|refine aQ ?_|refine aS ?_|refine aP ?_|refine aT ?_|refine aa3 ?_|refine aa4 ?_|refine dV rfl rfl (fun _=>?_) (fun _=>?_)))
 ·(repeat' (first|refine aa0 ?_|refine aj ?_|refine ai ?_|refine Wc.block ?_))
  refine ay (AU (a:=j*20) (b:=j*20+20) hix hdr (by omega) (by omega) hDl o1 hPD (hc.chg c1) (by omega)) rfl ?_
  rintro u w2 ⟨D',ck,o2,c2⟩
  (repeat' (first|refine aa0 ?_|refine aa1 ?_|refine af ?_|refine ah ?_|refine aj ?_|refine ai ?_|refine aJ ?_|refine aa7 ?_))
  refine aK (j+1,D') ⟨rfl,rfl,rfl,rfl,by show vi ((j*20+20:Nat):Int)=vi (((j+1)*20:Nat):Int);congr 1;omega,by show vi (((j*20+20:Nat):Int)+20)=vi (((j+1)*20+20:Nat):Int);congr 1;omega,trivial⟩ ⟨by dsimp only;omega,by rw [ck.len];exact hDl,?_,?_,fun y hy=>hPD y (ck.mem y hy),o2,Chg.trans c1 c2 fun _ _ e=>e⟩ (by dsimp only;omega)
  ·dsimp only
   rw [show (j+1)*20=j*20+20 by omega,ck.drop, ←List.drop_drop, ←List.drop_drop,hdr]
  ·exact zk.put hB rfl ck.left (by rw [Nat.min_eq_left (by omega)];exact ck.seg) (by dsimp only;omega)
 refine aj ?_
 (repeat' (first|refine aa0 ?_|refine ai ?_))
 refine ay (AU (a:=j*20) (b:=L) hix hdr (by omega) (Nat.le_refl _) hDl o1 hPD (hc.chg c1) (by omega)) rfl ?_
 rintro u w2 ⟨D2,ck2,o2,c2⟩
 (repeat' (first|refine af ?_|refine ah ?_))
 have hB2:zk (ltE key) D0 D2 20 0 L:=zk.put hB rfl ck2.left (by rw [hL,Nat.min_eq_right (by omega)];exact ck2.seg) (by omega)
 have hl2:D2.length=L:=by rw [ck2.len];exact hDl
 have hP2: ∀y∈D2,Pd y:=fun y hy=>hPD y (ck2.mem y hy)
 have c2':=Chg.trans c1 c2 fun _ _ e=>e
 clear hB hDl hdr ck2 hPD
 refine Wc.block ?_
 refine aU (σ:=Nat×List SE) (fun q=>[(0,.slice (some ⟨g,0,none⟩) L cap),(1,vi L),(2,.func (.func cf) #[] cc),(6,vi q.1)]) (fun q W=>20≤q.1∧q.1≤2*L+20∧q.2.length=L∧zk (ltE key) D0 q.2 q.1 0 L∧(∀y∈q.2,Pd y)∧qP Pb W (.slice (some ⟨g,0,none⟩) L cap) q.2∧Chg (fun k=>k=g) w W) (fun q=>2*L+20-q.1) (20,D2)
  ⟨rfl,rfl,rfl,rfl,trivial⟩ ⟨Nat.le_refl _,by omega,hl2,hB2,hP2,o2,c2'⟩ ?_
 clear hB2 hl2 hP2 o2 c2 o1 c1 c2'
 rintro ⟨bs,D⟩ G W ⟨hbs,ado,hDl,hB,hPD,o1,c1⟩
 dsimp only at hbs ado hDl hB hPD o1 c1
 simp only [oO]
 refine aj ?_
 refine aj ?_
 (repeat' (first|refine aa0 ?_|refine af ?_|refine ah ?_|refine ai ?_|refine Wc.skip ?_|refine aQ ?_|refine aS ?_|refine aP ?_|refine aT ?_|refine aa3 ?_|refine aa4 ?_|refine aa9 (fun _=>?_) (fun _=>?_)))
 ·refine Wc.block ?_
  refine aj ?_
  (repeat' (first|refine aa0 ?_|refine aa1 ?_|refine af ?_|refine ah ?_|refine ai ?_|refine gK rfl rfl (by omega) (by omega) ?_))
  refine aj ?_
  refine Wc.block ?_
  refine aU (σ:=Nat×List SE) (fun q=>[(0,.slice (some ⟨g,0,none⟩) L cap),(1,vi L),(2,.func (.func cf) #[] cc),(6,vi bs),(7,vi ((q.1*(2*bs):Nat):Int)),(8,vi ((q.1*(2*bs)+2*bs:Nat):Int))]) (fun q W=>q.1*(2*bs)≤L∧q.2.length=L∧zk (ltE key) D0 q.2 (2*bs) 0 (q.1*(2*bs))∧zk (ltE key) D0 q.2 bs (q.1*(2*bs)) L∧(∀y∈q.2,Pd y)∧qP Pb W (.slice (some ⟨g,0,none⟩) L cap) q.2∧Chg (fun k=>k=g) w W) (fun q=>L-q.1*(2*bs)) (0,D)
   ⟨rfl,rfl,rfl,rfl,by show vi 0=vi ((0*(2*bs):Nat):Int);rw [Nat.zero_mul];rfl,by show vi (2*(bs:Int))=vi ((0*(2*bs)+2*bs:Nat):Int);rw [Nat.zero_mul];congr 1;omega,trivial⟩ ⟨by simp,hDl,fun k _ h=>by simp at h,by simpa using hB,hPD,o1,c1⟩ ?_
  clear hB hDl hPD o1 c1
  rintro ⟨j,D⟩ G W ⟨hj,hDl,hB1,hB2,hPD,o1,c1⟩
  dsimp only at hj hDl hB1 hB2 hPD o1 c1
  simp only [oO]
  generalize ha:j*(2*bs)=a at hj hB1 hB2 ⊢
  have ek1:2*j*bs=a:=by rw [←ha,Nat.mul_comm 2 j,Nat.mul_assoc]
  have ek2:(2*j+1)*bs=a+bs:=by rw [Nat.succ_mul,ek1]
  have ek3:(2*j+1+1)*bs=a+2*bs:=by rw [Nat.succ_mul,ek2];omega
  have ek4:(j+1)*(2*bs)=a+2*bs:=by rw [Nat.succ_mul,ha]
  have hs1:a<L→Seg (ltE key) D0 D a (min (a+bs) L):=fun h=>by have:=hB2 (2*j) (by omega) (by omega);rw [ek1,ek2,hL] at this;exact this
  have hs2:a+bs<L→Seg (ltE key) D0 D (a+bs) (min (a+2*bs) L):=fun h=>by have:=hB2 (2*j+1) (by omega) (by omega);rw [ek2,ek3,hL] at this;exact this
  refine aj ?_
  refine aj ?_
  (repeat' (first|refine aa0 ?_|refine af ?_|refine ah ?_|refine ai ?_|refine Wc.skip ?_|refine aQ ?_|refine aS ?_|refine aP ?_|refine aT ?_|refine aa3 ?_|refine aa4 ?_|refine dV rfl rfl (fun _=>?_) (fun _=>?_)))
  ·(repeat' (first|refine aa0 ?_|refine aj ?_|refine ai ?_|refine Wc.block ?_|refine aa7 ?_))
   have h1:=hs1 (by omega)
   have h2:=hs2 (by omega)
   rw [Nat.min_eq_left (by omega)] at h1 h2
   refine ay (Ig (a:=a) (m:=a+bs) (b:=a+2*bs) hix h1 h2 (by omega) (by omega) (by omega) hDl o1 hPD (hc.chg c1) (by omega)) rfl ?_
   rintro u w2 ⟨D',ck,o2,c2⟩
   (repeat' (first|refine aa0 ?_|refine aa1 ?_|refine af ?_|refine ah ?_|refine aj ?_|refine ai ?_|refine aJ ?_|refine aa7 ?_|refine gK rfl rfl (by omega) (by omega) ?_))
   refine aK (j+1,D') ⟨rfl,rfl,rfl,rfl,by show vi ((a+2*bs:Nat):Int)=vi (((j+1)*(2*bs):Nat):Int);rw [ek4],by show vi (((a+2*bs:Nat):Int)+2*(bs:Int))=vi (((j+1)*(2*bs)+2*bs:Nat):Int);rw [ek4];congr 1,trivial⟩ ⟨by dsimp only;omega,by rw [ck.len];exact hDl,?_,?_,fun y hy=>hPD y (ck.mem y hy),o2,Chg.trans c1 c2 fun _ _ e=>e⟩ (by dsimp only;omega)
   ·dsimp only
    rw [ek4]
    exact zk.put hB1 ha.symm ck.left (by rw [hL,Nat.min_eq_left (by omega)];exact ck.seg) (Nat.le_refl _)
   ·dsimp only
    rw [ek4]
    exact zk.rest hB2 (by omega) ck.right
  ·refine eY (fun F W=> ∃D',agrees F [(0,.slice (some ⟨g,0,none⟩) L cap),(1,vi L),(2,.func (.func cf) #[] cc),(6,vi bs)]∧D'.length=L∧zk (ltE key) D0 D' (2*bs) 0 L∧(∀y∈D',Pd y)∧qP Pb W (.slice (some ⟨g,0,none⟩) L cap) D'∧Chg (fun k=>k=g) w W) ?_ ?_
   ·(repeat' (first|refine aa0 ?_|refine aa1 ?_|refine af ?_|refine ah ?_|refine aj ?_|refine ai ?_|refine Wc.skip ?_|refine aa3 ?_|refine aa4 ?_|refine aa7 ?_|refine aa9 (fun _=>?_) (fun _=>?_)))
    ·have h1:=hs1 (by omega)
     have h2:=hs2 (by omega)
     rw [Nat.min_eq_left (by omega)] at h1
     rw [Nat.min_eq_right (by omega)] at h2
     refine ay (Ig (a:=a) (m:=a+bs) (b:=L) hix h1 h2 (by omega) (by omega) (Nat.le_refl _) hDl o1 hPD (hc.chg c1) (by omega)) rfl ?_
     rintro u w2 ⟨D',ck,o2,c2⟩
     (repeat' (refine af ?_))
     exact dw ⟨D',⟨rfl,rfl,rfl,rfl,trivial⟩,by rw [ck.len];exact hDl,zk.put hB1 ha.symm ck.left (by rw [hL,Nat.min_eq_right (by omega)];exact ck.seg) (by omega),fun y hy=>hPD y (ck.mem y hy),o2,Chg.trans c1 c2 fun _ _ e=>e⟩
    ·refine dw ⟨D,⟨rfl,rfl,rfl,rfl,trivial⟩,hDl,?_,hPD,o1,c1⟩
     by_cases haL:a<L
     ·have h1:=hs1 haL
      exact zk.put hB1 ha.symm (fun _ _ h _=>h) (by rw [hL,Nat.min_eq_right (by omega)];rw [Nat.min_eq_right (by omega)] at h1;exact h1) (by omega)
     ·obtain rfl:a=L:=by omega
      exact hB1
   rintro F W2 ⟨D',hF,hl',hB',hP',o2,c2⟩
   rw [←oD hF]
   simp only [oO]
   clear hF
   (repeat' (first|refine aa0 ?_|refine aa1 ?_|refine af ?_|refine ai ?_|refine aJ ?_|refine gK rfl rfl (by omega) (by omega) ?_))
   exact aK (2*bs,D') ⟨rfl,rfl,rfl,by show vi ((bs:Int)*2)=vi ((2*bs:Nat):Int);congr 1;omega,trivial⟩ ⟨by dsimp only;omega,by dsimp only;omega,hl',hB',hP',o2,c2⟩ (by dsimp only;omega)
 ·have hp:D.Perm D0∧Srt (ltE key) D:=by
   by_cases h0:L=0
   ·rw [h0] at hDl hL
    rw [List.length_eq_zero_iff.1 hDl,List.length_eq_zero_iff.1 hL]
    exact ⟨List.Perm.refl _,by simp⟩
   ·have:=hB 0 (by omega) (by omega)
    unfold Seg at this
    rw [Nat.zero_mul,hL,Nat.min_eq_right (by omega),List.drop_zero,List.drop_zero,Nat.sub_zero,List.take_of_length_le (by omega),List.take_of_length_le (by omega)] at this
    exact this
  exact dI rfl ⟨_,rfl,D,hp.1,hp.2,o1,c1⟩
theorem EO {D0:List SE} (hix:D0.Pairwise fun x y=>x.2<y.2) (hL:D0.length=L) (own:qP Pb w (.slice (some ⟨g,0,none⟩) L cap) D0) (hP: ∀y∈D0,Pd y) (hc:DT cf cc key Pd g w) (hl:L≤400000000):
 Calls Tryz.prog 137 #[.slice (some ⟨g,0,none⟩) L cap,.func (.func cf) #[] cc] w (Ret fun _ w'=> ∃E,E.Perm D0∧Srt (ltE key) E∧qP Pb w' (.slice (some ⟨g,0,none⟩) L cap) E∧Chg (fun k=>k=g) w w'):=by
 refine mQ Tryz.func137 rfl Tryz.ntmps137 rfl ?_
 (repeat' (first|refine aa0 ?_|refine aO rfl ?_|refine ai ?_))
 refine ay (KY hix hL own hP hc hl) rfl ?_
 rintro u w2 ⟨E,h1,h2,o2,c2⟩
 (repeat' (refine af ?_))
 exact dI rfl ⟨_,rfl,E,h1,h2,o2,c2⟩
end
end Go.Proofs.YtjecgaiaiophpaaGreatDoor
namespace Go.Proofs.YtjecgaiaiophpaaGreatDoor.Wk
open Go Go.RowKit
section
variable {P:Program} {ops:Array Oper} {C:World→Prop} {Q:Exit→Act→World→Prop}
def okV (ops:Array Oper):Bool:=
 Region.noSelect ops&&(List.range ops.size).all (fun j=>(List.range j).all fun i=>Fg ops i j)&&
 (List.range ops.size).all (fun j=>match ops[j]? with|some o=>o.after.all fun e=> !Region.binds .any e||decide (e.on<j)|none=>true)
theorem QB {j:Nat} {post:List Nat} (hjn:j<ops.size) (hpost:j+1=ops.size→post=[]) (hQ: ∀e a w,e≠ .normal→ ¬Q e a w) (hQC: ∀a w,Q .normal a w→C w): ∀(pre:List Nat) (a:Act) (w:World),(∀i∈pre,Free ops i j)→C w→TS P ops C Q (pre++j::post) a w→
 wpOp P ops QF j (fun a' w'=>C w'∧TS P ops C Q (pre++post) a' w') a w:=by
 intro pre a w hf hC h
 obtain ⟨oj,hj⟩: ∃oj,ops[j]? =some oj:=⟨ops[j],Array.getElem?_eq_getElem hjn⟩
 cases hq:isQ ops j with
 |true=>
  obtain ⟨v,hy,ht⟩:=zD hj hq pre a w hf hC h
  have hrj:readB oj.op=true:=by unfold isQ at hq;rw [hj] at hq;exact hq
  exact gU hj hy hrj hC ⟨hC,ht⟩
 |false=>
  induction pre generalizing a with
  |nil=>
   rw [List.nil_append,TS,if_neg (by rw [hq];simp)] at h
   by_cases hp:j+1=ops.size
   ·rw [if_pos hp] at h
    rw [List.nil_append,hpost hp]
    exact BZ hQ (fun a' w' h'=>⟨hQC _ _ h',h'⟩) h
   ·rw [if_neg hp] at h
    exact h
  |cons i pre ih=>
   obtain ⟨⟨oi,oj',hi,hj',h1,h2,s1,s2⟩,hone,_⟩:=hf i (by simp)
   rw [hj] at hj'
   cases hj'
   have hqi:isQ ops i=true:=by rcases hone with h|h;exact h;rw [hq] at h;cases h
   rw [List.cons_append,TS,if_pos hqi] at h
   obtain ⟨o,vi,ho,hy,ht⟩:=h
   rw [hi] at ho
   cases ho
   have:=ih _ (fun k hk=>hf k (by simp [hk])) ht
   refine wpOp_mono (fun a' w' h'=>?_) (wpOp_put hj h1 s1 s2 hy this)
   obtain ⟨hy',hC',ht'⟩:=h'
   refine ⟨hC',?_⟩
   rw [List.cons_append,TS,if_pos hqi]
   exact ⟨oi,vi,hi,hy',ht'⟩
theorem Jo {Q2:Exit→Act→World→Prop} (hQ: ∀e a w,e≠ .normal→ ¬Q e a w) (hQC: ∀a w,Q .normal a w→C w) (hQ2: ∀a w,Q .normal a w→Q2 .normal a w) (hok:okV ops=true): ∀(fuel:Nat) (listed:Array Bool) (a:Act) (w:World),listed.size=ops.size→(left ops listed).length=fuel→zl ops listed→(fuel≠0→C w)→TS P ops C Q (left ops listed) a w→wpAny P .any ops Q2 fuel listed a w:=by
 simp only [okV,Bool.and_eq_true] at hok
 obtain ⟨⟨hns,JM⟩,hdown⟩:=hok
 have hsel:=Region.noSelect_spec hns
 have rdy: ∀listed:Array Bool,listed.size=ops.size→ ∀i,i∈Region.ready .any ops listed→i∈left ops listed:=by
  intro listed hs i hi
  obtain ⟨h0,o,ho,_⟩:=mem_ready.1 hi
  unfold left
  rw [List.mem_filter,List.mem_range]
  exact ⟨(Array.getElem?_eq_some_iff.1 ho).1,by simp [h0]⟩
 intro fuel
 induction fuel with
 |zero=>
  intro listed a w hs hl hcl hC h
  have hnil:left ops listed=[]:=List.eq_nil_of_length_eq_zero hl
  rw [hnil] at h
  refine ⟨?_,hQ2 _ _ h⟩
  rw [List.eq_nil_iff_forall_not_mem]
  intro i hi
  have:=rdy listed hs i hi
  rw [hnil] at this
  cases this
 |succ fuel ih=>
  intro listed a w hs hl hcl hC h
  replace hC:=hC (by simp)
  refine ⟨fun h0=>?_,fun j hj=>?_⟩
  ·exfalso
   cases hL:left ops listed with
   |nil=>rw [hL] at hl;cases hl
   |cons i l=>
    have hmem:i∈left ops listed:=by rw [hL];simp
    have hmem':=hmem
    unfold left at hmem
    rw [List.mem_filter,List.mem_range] at hmem
    have hall: ∀k,k<i→listed.getD k false=true:=by
     intro k hk
     have hks:k<ops.size:=by omega
     cases hb:listed.getD k true with
     |true=>simpa [Array.getD_eq_getD_getElem?,hs,hks] using hb
     |false=>
      have hkm:k∈left ops listed:=by unfold left;rw [List.mem_filter,List.mem_range];exact ⟨hks,by simp [hb]⟩
      have hsort:(left ops listed).Pairwise (· < ·):=List.Pairwise.sublist List.filter_sublist List.pairwise_lt_range
      rw [hL] at hkm hsort
      rcases List.mem_cons.1 hkm with e|e
      ·omega
      ·have:=(List.pairwise_cons.1 hsort).1 k e;omega
    have:i∈Region.ready .any ops listed:=by
     refine mem_ready.2 ⟨by simpa using hmem.2,ops[i],Array.getElem?_eq_getElem hmem.1,fun e he hb=>?_⟩
     have h3:=List.all_eq_true.1 hdown i (List.mem_range.2 hmem.1)
     rw [Array.getElem?_eq_getElem hmem.1] at h3
     have h4:=Array.all_eq_true'.1 h3 e he
     rw [hb] at h4
     exact hall e.on (by simpa using h4)
    rw [h0] at this
    cases this
  ·obtain ⟨pre,post,hL⟩:=List.append_of_mem (rdy listed hs j hj)
   rw [hL] at h
   obtain ⟨_,oj,hoj,_⟩:=mem_ready.1 hj
   have hjs:j<ops.size:=(Array.getElem?_eq_some_iff.1 hoj).1
   have hnd:(left ops listed).Nodup:=List.Nodup.sublist List.filter_sublist List.nodup_range
   have hsort:(left ops listed).Pairwise (· < ·):=List.Pairwise.sublist List.filter_sublist List.pairwise_lt_range
   have IE: ∀i∈left ops listed,i<ops.size∧listed.getD i true=false:=fun i hi=>by
    unfold left at hi
    rw [List.mem_filter,List.mem_range] at hi
    exact ⟨hi.1,by simpa using hi.2⟩
   have wS: ∀k,k∈ahead ops ops.size [j]→k=j∨listed.getD k false=true:=wo hcl hj _ _ (by simp)
   have hfree: ∀i∈pre,Free ops i j:=by
    intro i hi
    have him:i∈left ops listed:=by rw [hL];simp [hi]
    obtain ⟨his,hun⟩:=IE i him
    have hij:i<j:=by rw [hL] at hsort;exact (List.pairwise_append.1 hsort).2.2 i hi j (by simp)
    have h3:=List.all_eq_true.1 (List.all_eq_true.1 JM j (List.mem_range.2 hjs)) i (List.mem_range.2 hij)
    unfold Fg at h3
    simp only [Bool.or_eq_true,Bool.and_eq_true,Array.getElem?_eq_getElem his,Array.getElem?_eq_getElem hjs] at h3
    rcases h3 with h3|⟨h3,h4,h5⟩
    ·exfalso
     rcases wS i (by simpa using h3) with e|e
     ·omega
     ·simp [Array.getD_eq_getD_getElem?,hs,his] at hun e
      rw [hun] at e;cases e
    ·exact ⟨⟨_,_,Array.getElem?_eq_getElem his,Array.getElem?_eq_getElem hjs,h4,h5,fun cs b=>hsel i _ cs b (Array.getElem?_eq_getElem his),fun cs b=>hsel j _ cs b (Array.getElem?_eq_getElem hjs)⟩,h3,by omega⟩
   have hpo:j+1=ops.size→post=[]:=by
    intro hje
    cases post with
    |nil=>rfl
    |cons k post=>
     have hkm:k∈left ops listed:=by rw [hL];simp
     have h1:=(IE k hkm).1
     rw [hL] at hsort
     have h2:=(List.pairwise_append.1 hsort).2.1
     have:=(List.pairwise_cons.1 h2).1 k (by simp)
     omega
   have hset:left ops (listed.setIfInBounds j true)=pre++post:=by rw [Fh hs hjs];exact yK hnd hL
   have hlen:(pre++post).length=fuel:=by have:=hl;rw [hL] at this;simp at this ⊢;omega
   have hcl':=hcl.set hj
   exact yG (fun a' w' h'=>ih _ a' w' (by simpa using hs) (by rw [hset];exact hlen) hcl' (fun _=>h'.1) (by rw [hset];exact h'.2)) (QB hjs hpo hQ hQC pre a w hfree hC h)
end
section
variable {P:Program} {n:Nat} {ds:List Deferred} {Q:Po} {F:Fr} {ops:List Oper} {C:World→Prop} {w:World}
theorem mg {rid:Nat} (hm:P.follows .mixedOrders=true) (hB:okV ops.toArray=true) (C:World→Prop) (hC:C w.drew) (h: ∀w',New w w'→Wt P n ds C (fun e F w=>e=.normal∧C w∧Q .normal F w) ops ops F w'):Wc P n ds Q (.region rid ops.toArray true) F w:=by
 unfold Wc
 refine wp_region_any hm ?_
 have hleft:left ops.toArray (Array.replicate ops.toArray.size false)=(List.range ops.length).map (0+ ·):=by
  unfold left
  rw [show ((fun x=>0+x):Nat→Nat)=id from funext fun x=>Nat.zero_add x,List.map_id]
  simp only [List.size_toArray]
  refine List.filter_eq_self.2 fun k hk=>?_
  have:=List.mem_range.1 hk
  simp [Array.getD_eq_getD_getElem?,Array.getElem?_replicate,this]
 have h0:zl ops.toArray (Array.replicate ops.toArray.size false):=by
  intro j o hj
  exfalso
  simp only [Array.getD_eq_getD_getElem?,Array.getElem?_replicate] at hj
  split at hj<;>simp at hj
 refine Jo (C:=C) (Q:=QA n ds (fun e F w=>e=.normal∧C w∧Q .normal F w)) (by rintro e a w he ⟨F,_,h,_⟩;exact he h) (by rintro a w ⟨F,_,_,hC,_⟩;exact hC) (by rintro a w ⟨F,e,_,_,hq⟩;exact ⟨F,e,hq⟩) hB _ _ _ _ (by simp) (by rw [hleft];simp) h0 (fun _=>hC) ?_
 rw [hleft]
 exact zF ops 0 F w.drew (fun j=>by rw [Nat.zero_add]) (h _ (Chg.drew _ _))
end
end Go.Proofs.YtjecgaiaiophpaaGreatDoor.Wk
namespace Go.Proofs.YtjecgaiaiophpaaGreatDoor
open Go Wk
open Go.RowKit (Below)
attribute [local irreducible] Go.Calls
theorem BD: ∀(l:List Nd) (i:Nat) (dp pt:List Int) (sn:List Kid),(vJ i dp pt sn l).2.isSome=true→
 (∀j x,l[j]? =some x→i+j≠0→(x.parent,x.name)∉sn)∧(∀j k x y,j<k→l[j]? =some x→l[k]? =some y→i+j≠0→(x.parent,x.name)≠(y.parent,y.name))
 | [],_,_,_,_,_=>⟨fun j x h=>by simp at h,fun j k x y _ h=>by simp at h⟩
 |z::r,i,dp,pt,sn,h=>by
  rw [vJ] at h
  split at h
  ·cases h
  ·split at h
   ·rename_i h0
    subst h0
    split at h
    ·cases h
    ·obtain ⟨a,b⟩:=BD r 1 _ _ _ h
     refine ⟨fun j x hx hj=>?_,fun j k x y hjk hx hy hj=>?_⟩
     ·cases j with
      |zero=>exact absurd rfl hj
      |succ j=>exact a j x (by simpa using hx) (by omega)
     ·cases j with
      |zero=>exact absurd rfl hj
      |succ j=>cases k with
       |zero=>omega
       |succ k=>exact b j k x y (by omega) (by simpa using hx) (by simpa using hy) (by omega)
   ·rename_i h0
    split at h
    ·cases h
    ·split at h
     ·cases h
     ·rename_i h3
      have hz:(z.parent,z.name)∉sn:=fun e=>h3 (.inr (.inr (.inr (List.contains_iff_mem.2 e))))
      obtain ⟨a,b⟩:=BD r (i+1) _ _ _ h
      refine ⟨fun j x hx hj=>?_,fun j k x y hjk hx hy hj=>?_⟩
      ·cases j with
       |zero=>simp at hx;subst hx;exact hz
       |succ j=>exact fun e=>a j x (by simpa using hx) (by omega) (by simp [e])
      ·cases k with
       |zero=>omega
       |succ k=>cases j with
        |zero=>
         simp at hx;subst hx
         exact fun e=>a k y (by simpa using hy) (by omega) (by simp [←e])
        |succ j=>exact b j k x y (by omega) (by simpa using hx) (by simpa using hy) (by omega)
theorem Vg {t:List Nd} (ht:nV t=true) {i j:Nat} {x y:Nd} (hx:t[i]? =some x) (hy:t[j]? =some y) (hi:i≠0) (hj:j≠0) (h1:x.parent=y.parent) (h2:x.name=y.name):i=j:=by
 have h:=ht
 unfold nV at h
 rw [Bool.and_eq_true] at h
 have hd:=(BD t 0 [] [] [] h.1).2
 rcases Nat.lt_trichotomy i j with hlt|he|hlt
 ·exact absurd (by rw [h1,h2]) (hd i j x y hlt hx hy (by omega))
 ·exact he
 ·exact absurd (by rw [h1,h2]) (hd j i y x hlt hy hx (by omega))
theorem QC {t:List Nd} (ht:nV t=true): ∀(a b:Nat),a<t.length→b<t.length→xO t a=xO t b→a=b:=by
 intro a
 induction a using Nat.strongRecOn with
 |ind a ih=>
  intro b ha hb h
  obtain ⟨x,hx⟩:=nN t ha
  obtain ⟨y,hy⟩:=nN t hb
  by_cases a0:a=0
  ·by_cases b0:b=0
   ·omega
   ·rw [su ht hy b0,a0,wz] at h
    simp at h
  ·by_cases b0:b=0
   ·rw [su ht hx a0,b0,wz] at h
    simp at h
   ·rw [su ht hx a0,su ht hy b0] at h
    obtain ⟨h1,h2⟩:=List.append_inj' h rfl
    have ka:=(qA ht hx).kid a0
    have kb:=(qA ht hy).kid b0
    have hp:=ih x.parent.toNat (by omega) y.parent.toNat (by omega) (by omega) h1
    exact Vg ht hx hy a0 b0 (by omega) (by simpa using h2)
theorem DU {t:List Nd} (ht:nV t=true) {a b:Nat} (ha:a<t.length) (hb:b<t.length) (h:oz t a=oz t b):a=b:=
 QC ht a b ha hb (PV (fun n hn=>(yO ht a n hn).1) (fun n hn=>(yO ht b n hn).1) h)
def rkF (cs:List Cd) (t:List Nd) (i:Nat):Bool:=onM t i&&(qI cs t i).isSome
theorem QE {Pb Pt:Nat→Prop} {w:World} {v u:Value} {cs:List Cd} {t:List Nd} (h:RdS rCd 7 Pb w v cs) (ht:RdS rNd 3 Pt w u t) (hc:sK cs=true) (hok:nV t=true):
 Calls Tryz.prog 151 #[v,u] w (Ret fun r w'=>(∃q,r=.tuple #[q,vi 0]∧ny (Wk.one viN) 3 1 (fun b=>w.heap.size≤b) NoB w' q (Ci cs t))∧New w w'):=by
 obtain ⟨a,cap,rfl,hc1,hc2⟩:=h.form
 obtain ⟨a2,cap2,rfl,hd1,hd2⟩:=ht.form
 have hlen:=oN hok
 have htp:=tY hok
 have hcl:=JU hc
 replace h:=h.mono (Pb':=fun k=>k<w.heap.size) MX fun k hk _=>hk
 replace ht:=ht.mono (Pb':=fun k=>k<w.heap.size) zH fun k hk _=>hk
 refine mQ Tryz.func151 rfl Tryz.ntmps151 rfl ?_
 (repeat' (first|refine aj ?_|refine ai ?_))
 refine bJ rfl (fun w1 b1 n1 s1=>?_)
 replace b1:Bk w1 w.heap.size 23 [.slice a cs.length cap]:=b1
 (repeat' (first|refine aa1 ?_|refine af ?_|refine ah ?_|refine aj ?_|refine ai ?_))
 refine au (u:=.slice a cs.length cap) rfl (b1.cell (o:=0) rfl) ?_
 (repeat' (refine aa0 ?_))
 refine ay (Kv (h.keep qx n1.keep) (ht.keep nO n1.keep) hc hok) rfl ?_
 rintro _ w2 ⟨⟨q,rfl,oa⟩,n2⟩
 have b2:=b1.chg n2 fun e=>e
 have n02:=New.trans n1 n2
 obtain ⟨qa,qc,rfl,_,_⟩:=oa.form
 (repeat' (first|refine aa0 ?_|refine aa8 ?_))
 refine Wl.alloc fun w3 b3 n3 s3=>?_
 replace b3:Bk w3 w2.heap.size 109 [.slice none 0 0]:=b3
 refine bH (u:=.slice qa (allM cs t).length qc) b3 rfl (show (0:Nat)<1 by omega) rfl rfl fun w4 b4 c4=>?_
 replace b4:Bk w4 w2.heap.size 109 [.slice qa (allM cs t).length qc]:=b4
 have hz2:=n02.size
 have n24:New w2 w4:=(Chg.trans n3.any c4 fun _ _ e=>e).toNew fun k hk e=>by omega
 have n04:=New.trans n02 n24
 have b24:=b2.chg n24 fun e=>e
 have oa4:=oa.new (mV xH) n24
 (repeat' (first|refine aa0 ?_|refine aa1 ?_|refine af ?_|refine aO rfl ?_|refine ah ?_|refine aj ?_|refine ai ?_|refine Wc.skip ?_|refine aa4 ?_|(refine pV (fun _=>?_) (fun _=>?_)<;>(first|(exfalso;omega)|skip))))
 refine eF (f:=vs) (y0:=([]:Nm)) (Pe:=NoB) rfl rfl rfl (by omega) (by omega) (by omega) fun vp w5 op n5=>?_
 rw [Int.toNat_natCast] at op
 obtain ⟨gp,gc,hvp,hgp,hgl,_⟩:=op.blk (by intro e;rw [List.replicate_eq_nil_iff] at e;omega)
 rw [List.length_replicate] at hvp
 subst hvp
 refine Wl.alloc fun w6 b6 n6 s6=>?_
 replace b6:Bk w6 w5.heap.size 24 [.slice none 0 0]:=b6
 refine bH (u:=.slice (some ⟨gp,0,none⟩) t.length gc) b6 rfl (show (0:Nat)<1 by omega) rfl rfl fun w7 b7 c7=>?_
 replace b7:Bk w7 w5.heap.size 24 [.slice (some ⟨gp,0,none⟩) t.length gc]:=b7
 have hz4:=n04.size
 have hz5:=n5.size
 have n57:New w5 w7:=(Chg.trans n6.any c7 fun _ _ e=>e).toNew fun k hk e=>by omega
 have n47:=New.trans n5 n57
 have n07:=New.trans n04 n47
 have op7:=op.new (mZ _) n57
 have b27:=b24.chg n47 fun e=>e
 have b47:=b4.chg n47 fun e=>e
 have oa7:=oa4.new (mV xH) n47
 have hb4:=b4.lt
 have hb2:=b2.lt
 have hz1:=n2.size
 have Xh: ∀k,(Value.slice qa (allM cs t).length qc).ownBlock=some k→k<w2.heap.size:=fun k hk=>(oa.lt hk).2
 (repeat' (first|refine aa0 ?_|refine af ?_|refine aO rfl ?_|refine ah ?_|refine aj ?_|refine ai ?_|refine Wc.block ?_))
 refine aU (σ:=Nat×Value) (fun s=>[(1,.slice a2 t.length cap2),(2,.pointer (some ⟨w.heap.size,0,none⟩)),(6,.pointer (some ⟨w2.heap.size,0,none⟩)),(8,s.2),(9,.pointer (some ⟨w5.heap.size,0,none⟩)),(26,vi t.length),(27,vi s.1)])
  (fun s W=>s.1≤t.length∧ny (Wk.one viN) 3 1 (fun b=>w7.heap.size≤b) NoB W s.2 ((List.range s.1).filter (rkF cs t))∧ny (Wk.one vs) 9 1 (fun b=>w4.heap.size≤b) NoB W (.slice (some ⟨gp,0,none⟩) t.length gc) ((List.range s.1).map (oz t)++List.replicate (t.length-s.1) [])∧Chg (fun k=>k=gp) w7 W)
  (fun s=>t.length-s.1) (0,.slice none 0 0) ⟨rfl,rfl,rfl,rfl,rfl,rfl,rfl,trivial⟩ ⟨Nat.zero_le _,bK,by simpa using op7,aV _ _⟩ ?_
 rintro ⟨i,l⟩ G W ⟨hi,own,opW,cW⟩
 dsimp only at hi own opW cW
 simp only [oO]
 have nW:New w W:=(Chg.trans n07.any cW fun _ _ e=>e).toNew fun k hk e=>by omega
 have bcW:=b27.chg cW (by omega)
 have baW:=b47.chg cW (by omega)
 have bpW:=b7.chg cW (by omega)
 have oaW:=oa7.chg (mV xH) cW fun k hk e=>by have:=Xh k hk;omega
 have hzW:=nW.size
 have hz7:=cW.size
 have adp:=n57.size
 obtain ⟨la,lc,rfl,_,_⟩:=own.form
 have hfl:((List.range i).filter (rkF cs t)).length≤i:=by
  have:=List.length_filter_le (rkF cs t) (List.range i)
  rwa [List.length_range] at this
 (repeat' (first|refine aa0 ?_|refine aa1 ?_|refine af ?_|refine ah ?_|refine aj ?_|refine ai ?_|refine Wc.block ?_|refine Wc.skip ?_|refine aQ ?_|refine aS ?_|refine aP ?_|refine aT ?_|refine aa3 ?_|refine aa4 ?_|refine aa9 (fun _=>?_) (fun _=>?_)))
 ·have hil:i<t.length:=by omega
  refine mg rfl (by kernel_rfl) (fun w'=>Chg (fun k=>k=gp) W w') (Chg.drew _ _) ?_
  intro w8 n8
  skip
  refine aa2 (aB (u:=.slice (some ⟨gp,0,none⟩) t.length gc) rfl (fun w' hw=>(bpW.chg hw (by omega)).cell (o:=0) rfl) (ak ?_))
  (repeat' (refine aa2 (pF (ak ?_))))
  refine bC rfl (ay (Hz (i:=i) ((ht.keep nO nW.keep).mono zH (fun _ _ e=>e) |>.keep nO n8.keep) hok hil) rfl ?_)
  rintro _ w9 ⟨rfl,n9⟩
  have n89:=New.trans n8 n9
  refine af ⟨rfl,n89.any,?_⟩
  (repeat' (first|refine aa2 (pF (ak ?_))|refine aa2 (iq rfl rfl (ak ?_))))
  refine aa2 (rY (ak ?_))
  have hpl:((List.range i).map (oz t)++List.replicate (t.length-i) ([]:Nm)).length=t.length:=by simp;omega
  refine Wt.last rfl (eX (q:=oz t i) (j:=i) (cap:=gc) (opW.new (mZ _) n89) (by rw [hpl]) (by omega) (by show Value.pointer (some ⟨gp,0+(i:Int).toNat*1,none⟩)=_;simp) rfl rfl rfl fun w10 o10 c10=>?_)
  have hset:((List.range i).map (oz t)++List.replicate (t.length-i) ([]:Nm)).set i (oz t i)=(List.range (i+1)).map (oz t)++List.replicate (t.length-(i+1)) []:=by
   rw [show t.length-i=(t.length-(i+1))+1 by omega,List.replicate_succ,List.set_append_right _ _ (by simp),List.range_succ,List.map_append]
   simp
  rw [hset] at o10
  have Aw:Chg (fun k=>k=gp) W w10:=Chg.trans n89.any c10 fun k _ e=>(by cases e;rfl)
  refine af ⟨rfl,Aw,?_⟩
  have YM:=own.chg (mZ _) Aw fun k hk e=>by have:=(own.lt hk).1;omega
  have adq:New w w10:=(Chg.trans nW.any Aw fun _ _ e=>e).toNew fun k hk e=>by omega
  have GL:Chg (fun k=>k=gp) w7 w10:=Chg.trans cW Aw fun _ _ e=>e
  have adr:=baW.chg Aw (by omega)
  have ads:=oaW.chg (mV xH) Aw fun k hk e=>by have:=Xh k hk;omega
  (repeat' (first|refine aa0 ?_|refine ah ?_|refine aj ?_|refine ai ?_))
  refine ay (Cm (i:=i) (ht.keep nO adq.keep) hok hil) rfl ?_
  rintro _ w11 ⟨rfl,n11⟩
  have Jp:Chg (fun k=>k=gp) w7 w11:=Chg.trans GL n11.any fun _ _ e=>e
  have KZ:=YM.new (mZ _) n11
  have o11:=o10.new (mZ _) n11
  have adt:=adr.chg n11 fun e=>e
  have adu:=ads.new (mV xH) n11
  have hstep:(List.range (i+1)).filter (rkF cs t)=(List.range i).filter (rkF cs t)++if rkF cs t i=true then [i] else []:=by
   rw [List.range_succ,List.filter_append]
   congr 1
   cases hr:rkF cs t i<;>simp [hr]
  have hget:(allM cs t)[i]? =some (wE cs (rE t i)):=by
   unfold allM
   rw [List.getElem?_map,List.getElem?_range hil];rfl
  cases hon:onM t i
  ·have hrf:rkF cs t i=false:=by unfold rkF;rw [hon];rfl
   rw [hrf,if_neg (by decide),List.append_nil] at hstep
   (repeat' (first|refine aa0 ?_|refine aa1 ?_|refine af ?_|refine aa8 ?_|refine qi ?_|refine pq ?_|refine ah ?_|refine aj ?_|refine ai ?_|refine Wc.skip ?_|refine aJ ?_|refine aa4 ?_|refine aa7 ?_))
   exact aK (i+1,_) ⟨rfl,rfl,rfl,rfl,rfl,rfl,rfl,trivial⟩ ⟨by dsimp only;omega,by rw [hstep];exact KZ,o11,Jp⟩ (by dsimp only;omega)
  ·(repeat' (first|refine aa0 ?_|refine aa1 ?_|refine af ?_|refine aa8 ?_|refine aa6 ?_|refine ah ?_|refine aj ?_|refine ai ?_))
   refine au (u:=.slice qa (allM cs t).length qc) rfl (adt.cell (o:=0) rfl) ?_
   (repeat' (first|refine aa0 ?_|refine aa6 ?_))
   refine bD (adu.rd CP.mo) rfl rfl (by omega) hget fun bb off cs' hcl' hR hat=>?_
   obtain rfl:cs'=xH (wE cs (rE t i)):=hR
   cases hf:wE cs (rE t i) with
   |none=>
    rw [hf] at hat
    have hrf:rkF cs t i=false:=by unfold rkF qI;rw [hf,Option.map_none,Option.isSome_none,Bool.and_false]
    rw [hrf,if_neg (by decide),List.append_nil] at hstep
    (repeat' (first|refine aa6 ?_|refine aa5 ?_))
    refine au (u:=vi (-1)) rfl (hat.get 0 rfl) ?_
    (repeat' (first|refine aa0 ?_|refine af ?_|refine aa6 ?_|refine pG ?_|refine ah ?_|refine ai ?_|refine Wc.skip ?_|refine aJ ?_|refine aa4 ?_|refine aa7 ?_|(refine cZ rfl rfl (fun _=>?_) (fun _=>?_)<;>(first|(exfalso;omega)|skip))))
    exact aK (i+1,_) ⟨rfl,rfl,rfl,rfl,rfl,rfl,rfl,trivial⟩ ⟨by dsimp only;omega,by rw [hstep];exact KZ,o11,Jp⟩ (by dsimp only;omega)
   |some m=>
    rw [hf] at hat
    have hrf:rkF cs t i=true:=by unfold rkF qI;rw [hf,hon];rfl
    rw [hrf,if_pos rfl] at hstep
    (repeat' (first|refine aa6 ?_|refine aa5 ?_))
    refine au (u:=vi m.1) rfl (hat.get 0 rfl) ?_
    (repeat' (first|refine aa0 ?_|refine af ?_|refine aa6 ?_|refine pG ?_|refine ah ?_|refine ai ?_|refine aa3 ?_|(refine cZ rfl rfl (fun _=>?_) (fun _=>?_)<;>(first|(exfalso;omega)|skip))))
    refine dF (R:=Wk.one viN) (y:=i) qJ KZ rfl rfl rfl rfl rfl (by omega) (by omega) (by simp only [maxLen];omega) (by omega) rfl rfl fun v' w12 p o12 c12 lie=>?_
    have TA:=Jp.size
    have adv:Chg (fun k=>k=gp) w7 w12:=by
     refine (Chg.trans (M:=fun k=>k=gp∨w7.heap.size≤k) (Jp.mono fun _ _ e=>.inl e) c12 fun k _ e=>.inr (KZ.lt e).1).mono fun k hk e=>?_
     rcases e with e|e
     ·exact e
     ·omega
    have adw:=o11.chg (mZ _) c12 fun k hk e=>by
     have h1:w7.heap.size≤k:=(KZ.lt e).1
     have h2:gp=k:=by injection hk
     omega
    rw [←hstep] at o12
    (repeat' (first|refine aa0 ?_|refine aa1 ?_|refine af ?_|refine ah ?_|refine ai ?_|refine aJ ?_|refine aa7 ?_))
    exact aK (i+1,v') ⟨rfl,rfl,rfl,rfl,rfl,rfl,rfl,trivial⟩ ⟨by dsimp only;omega,o12.mono qJ.mo (fun b _ hb=>by rcases hb with hb|hb<;>omega) (fun _ _ e=>e),adw,adv⟩ (by dsimp only;omega)
 ·obtain rfl:i=t.length:=by omega
  rw [Nat.sub_self,List.replicate_zero,List.append_nil] at opW
  refine dL (f1:=[]) (c1:=[.pointer (some ⟨w.heap.size,0,none⟩),.pointer (some ⟨w2.heap.size,0,none⟩),.pointer (some ⟨w5.heap.size,0,none⟩)]) rfl rfl ?_
  have hmem: ∀x∈(List.range t.length).filter (rkF cs t),x<t.length∧ ∃k,qI cs t x=some k:=fun x hx=>by
   obtain ⟨h1,h2⟩:=List.mem_filter.1 hx
   unfold rkF at h2
   rw [Bool.and_eq_true,Option.isSome_iff_exists] at h2
   exact ⟨by simpa using h1,h2.2⟩
  refine ay (Bl (g:=199) (cb:= #[.pointer (some ⟨w.heap.size,0,none⟩),.pointer (some ⟨w2.heap.size,0,none⟩),.pointer (some ⟨w5.heap.size,0,none⟩)]) (lv:=Dy cs t) (pt:=oz t) own (fun x hx y hy e=>DU hok (hmem x hx).1 (hmem y hy).1 e) (by omega) fun w' hw x hx y hy=>?_) rfl ?_
  ·obtain ⟨hxl,kx,hkx⟩:=hmem x hx
   obtain ⟨hyl,ky,hky⟩:=hmem y hy
   have hne: ∀k,k<w7.heap.size→ ¬(Value.slice la ((List.range t.length).filter (rkF cs t)).length lc).ownBlock=some k:=fun k hk e=>by have:=(own.lt e).1;omega
   have nWw:Chg (fun k=>w7.heap.size≤k) W w':=hw.mono fun k _ e=>(own.lt e).1
   refine (Nk (Pc:=fun k=>k<w.heap.size) (Pp:=fun b=>w4.heap.size≤b∨NoB b) (cs:=cs) (t:=t) (ka:=kx) (kb:=ky) (bcW.chg nWw (show ¬w7.heap.size≤w.heap.size by omega)) (baW.chg nWw (show ¬w7.heap.size≤w2.heap.size by omega)) (bpW.chg nWw (show ¬w7.heap.size≤w5.heap.size by have:=b7.lt;omega)) ((h.keep qx nW.keep).keep qx (nWw.keep fun k hk _ e=>by have h1:w7.heap.size≤k:=e;omega)) ((oaW.chg (mV xH) nWw fun k hk e=>by have:=Xh k hk;have h1:w7.heap.size≤k:=e;omega).rd CP.mo) ?_ hxl hyl hkx hky hcl hlen).mono ?_
   ·have o9:=opW.chg (mZ _) nWw fun k hk e=>by
     have h1:w7.heap.size≤k:=e
     have h2:gp=k:=by injection hk
     omega
    exact o9.rd qR.mo
   ·rintro _ w'' ⟨_,rfl,rfl,hg⟩
    exact ⟨rfl,hg⟩
  rintro _ w11 ⟨o11,c11⟩
  have n11:New w w11:=Chg.trans nW c11 fun k hk e=>by have:=(own.lt e).1;omega
  (repeat' (first|refine aa0 ?_|refine aa1 ?_|refine af ?_|refine ah ?_|refine aj ?_|refine ai ?_|refine ax ?_))
  exact aW rfl rfl rfl ⟨_,rfl,⟨_,rfl,o11.mono qJ.mo (fun b _ hb=>by omega) (fun _ _ e=>e)⟩,n11⟩
end Go.Proofs.YtjecgaiaiophpaaGreatDoor
namespace Go.Proofs.YtjecgaiaiophpaaGreatDoor
open Go Wk
open Go.RowKit (Below)
attribute [local irreducible] Go.Calls
abbrev sU (x:Bj):List Value:=vi x.1::pO x.2
theorem x9:qG (flat sU) 4:=qH _ (fun _=>rfl) fun x c hc=>by simp [pO] at hc;rcases hc with rfl|rfl|rfl|rfl<;>rfl
abbrev zq (x:Rfs):List Value:=[vi x.node,.int .u8 x.claim.kind,w64 x.claim.from_,w64 x.claim.upto,vi x.by_]
theorem xf:qG (flat zq) 5:=qH _ (fun _=>rfl) fun x c hc=>by simp at hc;rcases hc with rfl|rfl|rfl|rfl|rfl<;>rfl
theorem Jq {w:World} {n y:Int} {k a b:Int}:(Instr.build 200 #[(0,vi n),(1,.agg #[.int .u8 k,.int .u64 a,.int .u64 b]),(2,vi y)]).run Tryz.prog w=.ok (.agg #[vi n,.int .u8 k,.int .u64 a,.int .u64 b,vi y]) w:=by
 kernel_rfl
theorem GN {w:World} {n:Int}:(Instr.build 200 #[(0,vi n),(2,vi (-1))]).run Tryz.prog w=.ok (.agg #[vi n,.int .u8 0,.int .u64 0,.int .u64 0,vi (-1)]) w:=by
 kernel_rfl
theorem Jr {w:World} {n:Int} {k a b:Int}:(Instr.build 300 #[(0,vi n),(1,.agg #[.int .u8 k,.int .u64 a,.int .u64 b])]).run Tryz.prog w=.ok (.agg #[vi n,.int .u8 k,.int .u64 a,.int .u64 b]) w:=by
 kernel_rfl
theorem DV {Pb:Nat→Prop} {w:World} {v:Value} {l:List Bj} {p:Bj→Bool} {g:FuncId} {cap:Array Value} [hc:mX Tryz.prog g] (h:RdS (flat sU) 4 Pb w v l)
 (hf: ∀y w',y∈l→New w w'→Calls Tryz.prog g ([Value.agg (sU y).toArray]++cap.toList).toArray w' (Ret fun r w''=>r=.bool (p y)∧New w' w'')):
 Calls Tryz.prog 202 #[v,.func (.func g) #[] cap] w (Ret fun r w'=>r=vi (idx p l)∧New w w'):=by
 obtain ⟨a,cp,rfl,hc1,hc2⟩:=h.form
 simp only [maxLen] at hc2
 refine mQ Tryz.func202 rfl Tryz.ntmps202 rfl ?_
 (repeat' (first|refine aa0 ?_|refine aa1 ?_|refine af ?_|refine aO rfl ?_|refine ah ?_|refine aj ?_|refine ai ?_|refine Wc.block ?_))
 refine aU (σ:=Nat) (fun i=>[(0,.slice a l.length cp),(1,.func (.func g) #[] cap),(7,vi l.length),(8,vi i)]) (fun i w'=>i≤l.length∧(∀x∈l.take i,p x=false)∧New w w') (fun i=>l.length-i) 0 ⟨rfl,rfl,rfl,rfl,trivial⟩ ⟨Nat.zero_le _,by simp,aV _ _⟩ ?_
 rintro i G w1 ⟨hi,hall,n1⟩
 simp only [oO]
 (repeat' (first|refine aa0 ?_|refine aa1 ?_|refine af ?_|refine ah ?_|refine aj ?_|refine ai ?_|refine Wc.block ?_|refine Wc.skip ?_|refine aQ ?_|refine ax ?_|refine aS ?_|refine aP ?_|refine aT ?_|refine aa3 ?_|refine aa4 ?_|refine aa9 (fun _=>?_) (fun _=>?_)))
 ·obtain ⟨y,hy⟩:=nN l (k:=i) (by omega)
  refine dW h n1.keep rfl rfl (by omega) hy fun b o cs hl hR hat=>?_
  obtain rfl:cs=sU y:=hR
  refine bQ hat rfl rfl ?_
  refine dG (dst:=some 16) rfl (hf y w1 (List.mem_of_getElem? hy) n1) rfl ?_
  rintro _ w2 ⟨rfl,n2⟩
  simp only [zy]
  cases hp:p y with
  |true=>
   (repeat' (first|refine aa0 ?_|refine aa1 ?_|refine af ?_|refine ah ?_|refine aj ?_|refine ai ?_|refine ax ?_|refine aN ?_|refine bf ?_|refine bG ?_|refine aa3 ?_))
   refine aA rfl rfl ⟨_,rfl,?_,New.trans n1 n2⟩
   rw [IX hy hall hp];rfl
  |false=>
   (repeat' (first|refine aa0 ?_|refine af ?_|refine ah ?_|refine ai ?_|refine Wc.skip ?_|refine aJ ?_|refine aa4 ?_|refine aa7 ?_))
   exact aK (i+1) ⟨rfl,rfl,rfl,rfl,trivial⟩ ⟨by omega,FK hy hall hp,New.trans n1 n2⟩ (by omega)
 ·have e:i=l.length:=by omega
  subst e
  rw [List.take_length] at hall
  refine aA rfl rfl ⟨_,rfl,?_,n1⟩
  rw [CB hall];rfl
theorem Nz {w:World} {b:Nat} {c:Clm} {o:Bj} (h:Bk w b 198 (pO c)):
 Calls Tryz.prog 203 #[.agg (sU o).toArray,.pointer (some ⟨b,0,none⟩)] w (Ret fun r w'=>r=.bool (FD o.2 c)∧New w w'):=by
 refine mQ Tryz.func203 rfl Tryz.ntmps203 rfl ?_
 (repeat' (first|refine aj ?_|refine ai ?_))
 refine bJ rfl fun w1 b1 n1 s1=>?_
 replace b1:Bk w1 w.heap.size 300 (sU o):=b1
 replace h:=h.chg n1 fun e=>e
 (repeat' (first|refine aa1 ?_|refine af ?_|refine ah ?_|refine aj ?_|refine ai ?_|refine aa5 ?_))
 refine bQ (cs:=pO o.2) (o:=0+1) (fun i u hu=>b1.cell (o:=0+1+i) (by rw [show 0+1+i=i+1 by omega];exact hu)) rfl rfl ?_
 refine dh h rfl rfl ?_
 refine ay (Ql (a:=o.2) (b:=c)) rfl ?_
 rintro _ w2 ⟨rfl,n2⟩
 (repeat' (first|refine aa1 ?_|refine af ?_|refine ah ?_|refine ax ?_))
 exact aA rfl rfl ⟨_,rfl,rfl,New.trans n1 n2⟩
theorem Js {w:World}:Calls Tryz.prog 200 #[.slice none 0 0] w (Ret fun r w'=>r=.slice none 0 0∧w=w'):=by
 refine mQ Tryz.func200 rfl Tryz.ntmps200 rfl ?_
 (repeat' (first|refine aa0 ?_|refine aa1 ?_|refine af ?_|refine ah ?_|refine aj ?_|refine ai ?_))
 refine iw rfl rfl ?_
 (repeat' (first|refine aa1 ?_|refine af ?_|refine ah ?_|refine aj ?_|refine ai ?_|refine ax ?_|refine aN ?_|refine aa3 ?_))
 exact aA rfl rfl ⟨_,rfl,rfl,rfl⟩
theorem TB {out:List Bj} {l:List Clm} {k:Nat} {c:Clm} (h:l[k]? =some c):IV out (l.drop k)=match out.find? fun o=>FD o.2 c with
 |some o=>some (c,o.1)
 |none=>IV out (l.drop (k+1)):=by rw [drop_cons h,IV];rfl
theorem Vh {α:Type} {p:α→Bool} {l:List α} (h:l.find? p=none):idx p l= -1:=by
 refine CB fun x hx=>?_
 have:=List.find?_eq_none.1 h x hx
 simpa using this
theorem TD {α:Type} {p:α→Bool} {l:List α} {y:α} (h:l.find? p=some y): ∃i:Nat,idx p l=(i:Int)∧l[i]? =some y:=by
 have hf:=CG (p:=p) l
 unfold idx
 cases hi:l.findIdx? p with
 |none=>rw [hi] at hf;dsimp only at hf;rw [hf] at h;cases h
 |some i=>
  rw [hi] at hf
  obtain ⟨z,h1,h2⟩:=hf
  rw [h] at h2;cases h2
  exact ⟨i,rfl,h1⟩
theorem Vj {t:List Nd} {i:Nat} {l:List Clm} (h:ofM t i=some l):l.length≤64:=by
 unfold ofM at h
 split at h
 ·cases h
 ·dsimp only at h
  split at h
  ·rename_i hc;cases h;exact hc
  ·cases h
def TF (w w':World) (r:Value) (q:List Bj×List Rfs):Prop:= ∃v u,r=.tuple #[v,u]∧ny (flat sU) 300 4 (fun b=>w.heap.size≤b) NoB w' v q.1∧ny (flat zq) 200 5 (fun b=>w.heap.size≤b) NoB w' u q.2
theorem NC {t:List Nd} {out:List Bj} {ns:List Nat} {k n:Nat} (h:ns[k]? =some n):tC t out (ns.drop k)=match ofM t n with
 |none=>let q:=tC t out (ns.drop (k+1));(q.1,⟨n,⟨0,0,0⟩, -1⟩::q.2)
 |some l=>match IV out l with
  |some (c,b)=>let q:=tC t out (ns.drop (k+1));(q.1,⟨n,c,b⟩::q.2)
  |none=>tC t (out++l.map fun c=>(n,c)) (ns.drop (k+1)):=by rw [drop_cons h,tC];rfl
theorem QG {Pb Pn:Nat→Prop} {w:World} {v vn:Value} {l:List Nd} {ns:List Nat} (h:RdS rNd 3 Pb w v l) (hok:nV l=true) (hn:RdS (Wk.one viN) 1 Pn w vn ns) (hns: ∀n∈ns,n<l.length) (hnl:ns.length≤512):
 Calls Tryz.prog 152 #[v,.slice none 0 0,vn] w (Ret fun r w'=>TF w w' r (tC l [] ns)∧New w w'):=by
 obtain ⟨a,cap,rfl,hc1,hc2⟩:=h.form
 obtain ⟨na,nc,rfl,hd1,hd2⟩:=hn.form
 have hlen:=oN hok
 refine mQ Tryz.func152 rfl Tryz.ntmps152 rfl ?_
 (repeat' (first|refine aa0 ?_|refine aa1 ?_|refine af ?_|refine ah ?_|refine aj ?_|refine ai ?_))
 refine ay Js rfl ?_
 rintro _ _ ⟨rfl,rfl⟩
 (repeat' (first|refine aa0 ?_|refine aa1 ?_|refine af ?_|refine aO rfl ?_|refine ah ?_|refine aj ?_|refine ai ?_|refine Wc.block ?_))
 refine aU (σ:=Nat×(Value×List Bj)×(Value×List Rfs)) (fun q=>[(0,.slice a l.length cap),(8,q.2.1.1),(9,q.2.2.1),(22,.slice na ns.length nc),(23,vi ns.length),(24,vi q.1)])
  (fun q W=>q.1≤ns.length∧q.2.1.2.length≤64*q.1∧q.2.2.2.length≤q.1∧tC l [] ns=((tC l q.2.1.2 (ns.drop q.1)).1,q.2.2.2++(tC l q.2.1.2 (ns.drop q.1)).2)∧ny (flat sU) 300 4 (fun b=>w.heap.size≤b) NoB W q.2.1.1 q.2.1.2∧ny (flat zq) 200 5 (fun b=>w.heap.size≤b) NoB W q.2.2.1 q.2.2.2∧Sep q.2.1.1 q.2.2.1∧New w W) (fun q=>ns.length-q.1)
  (0,(.slice none 0 0,[]),(.slice none 0 0,[])) ⟨rfl,rfl,rfl,rfl,rfl,rfl,trivial⟩ ⟨Nat.zero_le _,by simp,by simp,by simp,bK,bK,(fun k e=>by cases e),aV _ _⟩ ?_
 rintro ⟨k,⟨vo,out⟩,⟨vr,rf⟩⟩ G W ⟨hk,hol,hrl,hG,own,Bz,sep,nW⟩
 dsimp only at hk hol hrl hG own Bz sep nW
 simp only [oO]
 obtain ⟨oa,oc,rfl,_,_⟩:=own.form
 obtain ⟨ra,rc,rfl,_,_⟩:=Bz.form
 have hzW:=nW.size
 (repeat' (first|refine aa0 ?_|refine aa1 ?_|refine af ?_|refine ah ?_|refine aj ?_|refine ai ?_|refine Wc.block ?_|refine Wc.skip ?_|refine aQ ?_|refine ax ?_|refine aS ?_|refine aP ?_|refine aT ?_|refine aa3 ?_|refine aa4 ?_|refine aa9 (fun _=>?_) (fun _=>?_)))
 ·obtain ⟨n,hx⟩:=nN ns (k:=k) (by omega)
  have adx:=hns n (List.mem_of_getElem? hx)
  refine bY (hn.keep (nT _) nW.keep) rfl rfl (by omega) hx fun b o hcell=>?_
  refine au (u:=vi n) rfl hcell ?_
  (repeat' (first|refine aa0 ?_|refine aa1 ?_|refine af ?_|refine ah ?_|refine aj ?_|refine ai ?_))
  refine ay (Vb (i:=n) (h.keep nO nW.keep) hok adx) rfl ?_
  rintro _ w1 ⟨⟨vl,e,rfl,hof⟩,n1⟩
  have n01:=New.trans nW n1
  have xI:=own.new (mV sU) n1
  have VT:=Bz.new (mV zq) n1
  rw [NC hx] at hG
  cases hom:ofM l n with
  |none=>
   rw [hom] at hof hG
   dsimp only at hof hG
   (repeat' (first|refine aa0 ?_|refine aa1 ?_|refine af ?_|refine aa8 ?_|refine ah ?_|refine aj ?_|refine ai ?_|refine aa3 ?_|(refine pV (fun _=>?_) (fun _=>?_)<;>(first|(exfalso;omega)|skip))))
   refine fE (ps:=[(0,.tmp 37),(2,.const (vi (-1)))]) (parts:=[(0,vi n),(2,vi (-1))]) rfl GN ?_
   refine dF (R:=flat zq) (y:=⟨n,⟨0,0,0⟩, -1⟩) xf VT rfl rfl rfl rfl rfl (by omega) (by omega) (by simp only [maxLen];omega) (by omega) rfl rfl fun v2 w2 p qW c2 lie=>?_
   have hz1:=n1.size
   (repeat' (first|refine aa0 ?_|refine aa1 ?_|refine af ?_|refine ah ?_|refine ai ?_|refine aQ ?_|refine aS ?_|refine aP ?_|refine aa7 ?_))
   refine aK (k+1,(.slice oa out.length oc,out),(v2,rf++ [⟨n,⟨0,0,0⟩, -1⟩])) ⟨rfl,rfl,rfl,rfl,rfl,rfl,trivial⟩ ⟨by dsimp only;omega,by dsimp only;omega,by simp;omega,?_,xI.yJ (mV sU) c2 sep,qW.mono xf.mo (fun b _ e=>by rcases e with e|e;exact e;omega) (fun _ _ e=>e),zB xI sep lie,Chg.trans n01 c2 fun b hb e=>by have:=(Bz.lt e).1;omega⟩ (by dsimp only;omega)
   dsimp only
   rw [hG];simp
  |some cl=>
   rw [hom] at hof hG
   obtain ⟨rfl,Vk⟩:=hof
   dsimp only at hG
   have hcl:=Vj hom
   obtain ⟨ca,cc,rfl,_,_⟩:=Vk.form
   have hz1:=n1.size
   (repeat' (first|refine aa0 ?_|refine aa1 ?_|refine af ?_|refine aa8 ?_|refine aO rfl ?_|refine ah ?_|refine aj ?_|refine ai ?_|refine Wc.block ?_|refine Wc.skip ?_|refine aa4 ?_|(refine pV (fun _=>?_) (fun _=>?_)<;>(first|(exfalso;omega)|skip))))
   refine aU (σ:=Nat) (fun j=>[(0,.slice a l.length cap),(8,.slice oa out.length oc),(9,.slice ra rf.length rc),(11,vi n),(12,.slice ca cl.length cc),(14,vi (-1)),(22,.slice na ns.length nc),(23,vi ns.length),(24,vi k),(41,.slice ca cl.length cc),(42,vi cl.length),(43,vi j)])
    (fun j W'=>j≤cl.length∧IV out cl=IV out (cl.drop j)∧New w1 W') (fun j=>cl.length-j) 0 ⟨rfl,rfl,rfl,rfl,rfl,rfl,rfl,rfl,rfl,rfl,rfl,rfl,trivial⟩ ⟨Nat.zero_le _,by simp,aV _ _⟩ ?_
   rintro j G2 W2 ⟨hj,hH,n2⟩
   simp only [oO]
   have qW:=xI.new (mV sU) n2
   have VU:=VT.new (mV zq) n2
   have TG:=Vk.new (mV pO) n2
   have n02:=New.trans n01 n2
   have hz2:=n2.size
   (repeat' (first|refine aa0 ?_|refine af ?_|refine aO rfl ?_|refine ah ?_|refine aj ?_|refine ai ?_|refine Wc.block ?_|refine Wc.skip ?_|refine aQ ?_|refine aS ?_|refine aP ?_|refine aT ?_|refine aa3 ?_|refine aa4 ?_|refine aa9 (fun _=>?_) (fun _=>?_)|(refine cZ rfl rfl (fun _=>?_) (fun _=>?_)<;>(first|(exfalso;omega)|skip))))
   ·obtain ⟨c,hc⟩:=nN cl (k:=j) (by omega)
    refine bD (TG.rd tN.mo) rfl rfl (by omega) hc fun b o cs hl hR hat=>?_
    obtain rfl:cs=pO c:=hR
    refine bQ hat rfl rfl ?_
    clear hat
    refine Wl.alloc fun w3 b3 n3 s3=>?_
    (repeat' (refine aa1 ?_))
    refine aX (new:=pO c) b3 rfl rfl rfl rfl (show (3:Nat)≤3 from Nat.le_refl 3) (Td c) fun w4 b4 c4 s4=>?_
    replace b4:Bk w4 W2.heap.size 198 (pO c):=b4
    have n24:New W2 w4:=(Chg.trans n3.any c4 fun _ _ e=>e).toNew fun k hk e=>by omega
    (repeat' (first|refine aa0 ?_|refine af ?_|refine ah ?_|refine aj ?_|refine ai ?_))
    refine dL (f1:=[]) (c1:=[.pointer (some ⟨W2.heap.size,0,none⟩)]) rfl rfl ?_
    refine ay (DV (p:=fun o=>FD o.2 c) (g:=203) (cap:= #[.pointer (some ⟨W2.heap.size,0,none⟩)]) ((qW.new (mV sU) n24).rd x9.mo) (fun y w' _ hw=>Nz (b4.chg hw fun e=>e))) rfl ?_
    rintro _ w5 ⟨rfl,n5⟩
    have n25:=New.trans n24 n5
    rw [TB hc] at hH
    cases hfd:out.find? fun o=>FD o.2 c with
    |none=>
     rw [hfd] at hH
     rw [Vh hfd]
     (repeat' (first|refine aa0 ?_|refine aa1 ?_|refine af ?_|refine ah ?_|refine aj ?_|refine ai ?_|refine Wc.skip ?_|refine aJ ?_|refine aa4 ?_|refine aa7 ?_|(refine cZ rfl rfl (fun _=>?_) (fun _=>?_)<;>(first|(exfalso;omega)|skip))))
     exact aK (j+1) ⟨rfl,rfl,rfl,rfl,rfl,rfl,rfl,rfl,rfl,rfl,rfl,rfl,trivial⟩ ⟨by omega,hH,New.trans n2 n25⟩ (by omega)
    |some y=>
     rw [hfd] at hH
     obtain ⟨m,e1,e2⟩:=TD hfd
     rw [e1]
     dsimp only at hH
     rw [hH] at hG
     dsimp only at hG
     have Au:=qW.new (mV sU) n25
     have YN:=VU.new (mV zq) n25
     have VW:=TG.new (mV pO) n25
     have n05:=New.trans n02 n25
     have hml:=(List.getElem?_eq_some_iff.1 e2).1
     have hz5:=n25.size
     (repeat' (first|refine aa0 ?_|refine aa1 ?_|refine af ?_|refine ah ?_|refine aj ?_|refine ai ?_|refine aQ ?_|refine aS ?_|refine aP ?_|refine iW rfl ?_|refine aT ?_|refine aa3 ?_|(refine cZ rfl rfl (fun _=>?_) (fun _=>?_)<;>(first|(exfalso;omega)|skip))))
     refine cO rfl (by kernel_rfl) (fun w'=>Chg (fun b=>(Value.slice ra rf.length rc).ownBlock=some b) w5 w') (Chg.drew _ _) ?_
     intro w6 n6
     have hkc: ∀w',Chg (fun b=>(Value.slice ra rf.length rc).ownBlock=some b) w5 w'→ny (flat pO) 198 3 (fun b=>W.heap.size≤b) NoB w' (.slice ca cl.length cc) cl:=fun w' hw=>VW.chg (mV pO) hw fun b hb e=>by
      have h1:=(Vk.lt hb).1
      have h2:=(Bz.lt e).2
      omega
     have hko: ∀w',Chg (fun b=>(Value.slice ra rf.length rc).ownBlock=some b) w5 w'→ny (flat sU) 300 4 (fun b=>w.heap.size≤b) NoB w' (.slice oa out.length oc) out:=fun w' hw=>Au.yJ (mV sU) hw sep
     (repeat' (refine aa2 (pF (ak ?_))))
     refine aa2 (dD (w:=w5) (VW.rd tN.mo) (fun w' hw=>hw.keep fun b hb h1 e=>?_) rfl rfl (by omega) (by rw [Int.toNat_natCast];exact hc) fun b o cs hl hR hat=>ak ?_)
     ·rcases h1 with h1|h1
      ·have h2:=(Bz.lt e).2;omega
      ·exact h1
     obtain rfl:cs=pO c:=hR
     skip
     refine aa2 (cu hat rfl rfl (ak ?_))
     clear hat
     (repeat' (refine aa2 (pF (ak ?_))))
     refine aa2 (dD (w:=w5) ((Au.AB (Pb':=fun b=>(Value.slice oa out.length oc).ownBlock=some b) fun b hb _=>hb).rd x9.mo) (fun w' hw=>hw.keep fun b hb h1 e=>?_) rfl rfl (by omega) (by rw [Int.toNat_natCast];exact e2) fun b o cs hl hR hat=>ak ?_)
     ·rcases h1 with h1|h1
      ·exact sep b h1 e
      ·exact h1
     obtain rfl:cs=sU y:=hR
     (repeat' (refine aa2 (pK (ak ?_))))
     refine aa2 (aB (u:=vi y.1) rfl (fun w' hw=>(hat w' hw).get 0 rfl) (ak ?_))
     clear hat
     refine bC rfl (fE (ps:=[(0,.tmp 58),(1,.tmp 62),(2,.tmp 67)]) (parts:=[(0,vi n),(1,.agg (pO c).toArray),(2,vi y.1)]) rfl Jq (af ⟨rfl,n6.any,?_⟩))
     refine bC rfl (dB (R:=flat zq) (y:=⟨n,c,y.1⟩) (Pe:=NoB) xf rfl rfl rfl rfl (by omega) (by omega) fun vt w7 ot n7 s7 KD=>?_)
     have n67:=New.trans n6 n7
     refine af ⟨rfl,n67.any,?_⟩
     refine bC rfl (dH xf (YN.new (mV zq) n67) (ot.rd xf.mo) (fun y cs hy=>hy) rfl rfl (by omega) (by simp only [maxLen,List.length_singleton];omega) (by simp only [List.length_singleton];omega) fun v8 w8 o8 c8 lie _=>?_)
     have c58:=Chg.trans n67.any c8 fun _ _ e=>e
     refine af ⟨rfl,c58,?_⟩
     (repeat' (first|refine dm ?_|refine aa2 (fB (by conv=>{lhs;whnf}) (ak ?_))))
     (repeat' (first|refine aa0 ?_|refine af ?_|refine ah ?_|refine ai ?_|refine aQ ?_|refine aS ?_|refine aP ?_|refine aa7 ?_))
     have hz7:=n67.size
     refine aK (k+1,(.slice oa out.length oc,out),(v8,rf++ [⟨n,c,y.1⟩])) ⟨rfl,rfl,rfl,rfl,rfl,rfl,trivial⟩ ⟨by dsimp only;omega,by dsimp only;omega,by simp;omega,?_,hko w8 c58,o8.mono xf.mo (fun b _ e=>by rcases e with e|e;exact e;omega) (fun _ _ e=>e),zB (Au.new (mV sU) n67) sep lie,Chg.trans n05 c58 fun b hb e=>by have:=(Bz.lt e).1;omega⟩ (by dsimp only;omega)
     dsimp only
     rw [hG];simp
   ·obtain rfl:j=cl.length:=by omega
    rw [List.drop_length] at hH
    have hH:IV out cl=none:=hH
    rw [hH] at hG
    dsimp only at hG
    have VX: ∀b,(Value.slice ca cl.length cc).ownBlock=some b→W.heap.size≤b∧b<w1.heap.size:=fun b hb=>Vk.lt hb
    have zo:ny (flat sU) 300 4 (fun b=>w.heap.size≤b∧(Value.slice ca cl.length cc).ownBlock≠some b∧(Value.slice ra rf.length rc).ownBlock≠some b) NoB W2 (.slice oa out.length oc) out:=qW.AB fun b hb e=>⟨e,fun e2=>by have:=(VX b e2).1;have:=(own.lt hb).2;omega,sep b hb⟩
    have YO:ny (flat pO) 198 3 (fun b=>(Value.slice ca cl.length cc).ownBlock=some b) NoB W2 (.slice ca cl.length cc) cl:=TG.AB fun b hb _=>hb
    skip
    refine aU (σ:=Nat×Value×List Bj) (fun q=>[(0,.slice a l.length cap),(8,q.2.1),(9,.slice ra rf.length rc),(11,vi n),(22,.slice na ns.length nc),(23,vi ns.length),(24,vi k),(71,.slice ca cl.length cc),(72,vi cl.length),(73,vi q.1)])
     (fun q W'=>q.1≤cl.length∧q.2.2=out++(cl.take q.1).map (fun c=>(n,c))∧ny (flat sU) 300 4 (fun b=>w.heap.size≤b∧(Value.slice ca cl.length cc).ownBlock≠some b∧(Value.slice ra rf.length rc).ownBlock≠some b) NoB W' q.2.1 q.2.2∧ny (flat pO) 198 3 (fun b=>(Value.slice ca cl.length cc).ownBlock=some b) NoB W' (.slice ca cl.length cc) cl∧ny (flat zq) 200 5 (fun b=>w.heap.size≤b) NoB W' (.slice ra rf.length rc) rf∧New w W'∧w1.heap.size≤W'.heap.size) (fun q=>cl.length-q.1) (0,.slice oa out.length oc,out) ⟨rfl,rfl,rfl,rfl,rfl,rfl,rfl,rfl,rfl,rfl,trivial⟩
     ⟨Nat.zero_le _,by simp,zo,YO,VU,n02,hz2⟩ ?_
    rintro ⟨j,vo3,TI⟩ G3 W3 ⟨hj,ho3,vP,oc3,or3,n3,hz3⟩
    dsimp only at hj ho3 vP oc3 or3 n3 hz3
    simp only [oO]
    obtain ⟨pa,pc,rfl,_,_⟩:=vP.form
    (repeat' (first|refine aa0 ?_|refine af ?_|refine ah ?_|refine aj ?_|refine ai ?_|refine Wc.block ?_|refine Wc.skip ?_|refine aQ ?_|refine aS ?_|refine aJ ?_|refine aP ?_|refine aT ?_|refine aa3 ?_|refine aa4 ?_|refine aa7 ?_|refine aa9 (fun _=>?_) (fun _=>?_)))
    ·obtain ⟨c,hc⟩:=nN cl (k:=j) (by omega)
     have ady:TI.length=out.length+j:=by rw [ho3];simp;omega
     refine bD (oc3.rd tN.mo) rfl rfl (by omega) hc fun b o cs hl hR hat=>?_
     obtain rfl:cs=pO c:=hR
     refine bQ hat rfl rfl ?_
     clear hat
     refine Wl.alloc fun w4 b4 n4 s4=>?_
     refine aX (new:=pO c) b4 rfl rfl rfl rfl (show (3:Nat)≤3 from Nat.le_refl 3) (Td c) fun w5 b5 c5 s5=>?_
     replace b5:Bk w5 W3.heap.size 198 (pO c):=b5
     have n35:New W3 w5:=(Chg.trans n4.any c5 fun _ _ e=>e).toNew fun k hk e=>by omega
     (repeat' (first|refine aa0 ?_|refine af ?_|refine ah ?_|refine ai ?_))
     refine dh b5 rfl rfl ?_
     refine fE (ps:=[(0,.tmp 78),(1,.tmp 79)]) (parts:=[(0,vi n),(1,.agg (pO c).toArray)]) rfl Jr ?_
     refine dF (R:=flat sU) (y:=(n,c)) x9 (vP.new (mV sU) n35) rfl rfl rfl rfl rfl (by omega) (by omega) (by simp only [maxLen];omega) (by omega) rfl rfl fun v6 w6 p Qy c6 lie=>?_
     (repeat' (first|refine aa0 ?_|refine aa1 ?_|refine af ?_|refine ah ?_|refine ai ?_|refine aJ ?_|refine aa7 ?_))
     have adz:=n35.size
     have hz6:=c6.size
     refine aK (j+1,v6,TI++ [(n,c)]) ⟨rfl,rfl,rfl,rfl,rfl,rfl,rfl,rfl,rfl,rfl,trivial⟩ ⟨by dsimp only;omega,?_,Qy.mono x9.mo (fun b _ e=>?_) (fun _ _ e=>e),(oc3.new (mV pO) n35).chg (mV pO) c6 fun b hb e=>(vP.lt e).1.2.1 hb,(or3.new (mV zq) n35).chg (mV zq) c6 fun b hb e=>(vP.lt e).1.2.2 hb,Chg.trans (New.trans n3 n35) c6 fun b hb e=>by have:=(vP.lt e).1.1;omega,by omega⟩ (by dsimp only;omega)
     ·dsimp only
      rw [ho3,take_snoc hc];simp
     ·rcases e with e|e
      ·exact e
      ·have:=n3.size
       exact ⟨by omega,fun e2=>by have:=(VX b e2).2;omega,fun e2=>by have:=(Bz.lt e2).2;omega⟩
    ·obtain rfl:j=cl.length:=by omega
     rw [List.take_length] at ho3
     have ady:TI.length=out.length+cl.length:=by rw [ho3];simp
     refine aK (k+1,(.slice pa TI.length pc,TI),(.slice ra rf.length rc,rf)) ⟨rfl,rfl,rfl,rfl,rfl,rfl,trivial⟩ ⟨by dsimp only;omega,by dsimp only;omega,by dsimp only;omega,?_,vP.mono x9.mo (fun b _ e=>e.1) (fun _ _ e=>e),or3,fun b hb=>(vP.lt hb).1.2.2,n3⟩ (by dsimp only;omega)
     dsimp only
     rw [hG,ho3]
 ·obtain rfl:k=ns.length:=by omega
  rw [List.drop_length] at hG
  simp only [tC,List.append_nil] at hG
  rw [hG]
  exact aW rfl rfl rfl ⟨_,rfl,⟨_,_,rfl,own,Bz⟩,nW⟩
def Vl (w w':World) (r:Value) (q:List Bj×List Rfs):Prop:= ∃v u,r=.tuple #[v,u,vi 0]∧ny (flat sU) 300 4 (fun b=>w.heap.size≤b) NoB w' v q.1∧ny (flat zq) 200 5 (fun b=>w.heap.size≤b) NoB w' u q.2
theorem La {cs:List Cd} {t:List Nd}: ∀n∈Ci cs t,n<t.length:=by
 intro n hn
 unfold Ci at hn
 rw [List.mem_mergeSort,List.mem_filter,List.mem_range] at hn
 exact hn.1
theorem Ih (cs:List Cd) (t:List Nd):(Ci cs t).length≤t.length:=by
 unfold Ci
 rw [List.length_mergeSort]
 have:=List.length_filter_le (fun i=>onM t i&&(qI cs t i).isSome) (List.range t.length)
 rwa [List.length_range] at this
theorem Lc {Pb Pt:Nat→Prop} {w:World} {v u:Value} {cs:List Cd} {t:List Nd} (h:RdS rCd 7 Pb w v cs) (ht:RdS rNd 3 Pt w u t) (hc:sK cs=true) (hok:nV t=true):
 Calls Tryz.prog 99 #[v,u] w (Ret fun r w'=>Vl w w' r (qC cs t)∧New w w'):=by
 have hlen:=oN hok
 refine mQ Tryz.func99 rfl Tryz.ntmps99 rfl ?_
 (repeat' (first|refine aa0 ?_|refine aa1 ?_|refine af ?_|refine ah ?_|refine aj ?_|refine ai ?_))
 refine ay (QE h ht hc hok) rfl ?_
 rintro _ w1 ⟨⟨q,rfl,own⟩,n1⟩
 (repeat' (first|refine aa0 ?_|refine aa1 ?_|refine af ?_|refine aa8 ?_|refine ah ?_|refine aj ?_|refine ai ?_|refine Wc.skip ?_|refine aa4 ?_|(refine pV (fun _=>?_) (fun _=>?_)<;>(first|(exfalso;omega)|skip))))
 refine ay (QG (ht.keep nO n1.keep) hok (own.rd (nD _)) La (by have:=Ih cs t;omega)) rfl ?_
 rintro _ w2 ⟨⟨va,vb,rfl,o1,o2⟩,n2⟩
 (repeat' (first|refine aa0 ?_|refine aa1 ?_|refine af ?_|refine aa8 ?_|refine ah ?_|refine aj ?_|refine ai ?_|refine ax ?_))
 have hz:=n1.size
 exact dA rfl rfl rfl rfl ⟨_,rfl,⟨_,_,rfl,o1.mono x9.mo (fun b _ e=>by omega) (fun _ _ e=>e),o2.mono xf.mo (fun b _ e=>by omega) (fun _ _ e=>e)⟩,New.trans n1 n2⟩
end Go.Proofs.YtjecgaiaiophpaaGreatDoor
namespace Go.Proofs.YtjecgaiaiophpaaGreatDoor
open Go Wk Sy
open Go.RowKit (Below)
attribute [local irreducible] Go.Calls
theorem QH {α:Type} (p:α→Bool) (l:List α):(idx p l= -1∧ ∀x∈l,p x=false)∨ ∃i y,idx p l=(i:Nat)∧l[i]? =some y∧p y=true∧ ∀x∈l.take i,p x=false:=by
 unfold idx
 cases hx:l.findIdx? p with
 |none=>exact .inl ⟨rfl,List.findIdx?_eq_none_iff.1 hx⟩
 |some i=>
  obtain ⟨hlt,hp,hb⟩:=List.findIdx?_eq_some_iff_getElem.1 hx
  refine .inr ⟨i,l[i],rfl,List.getElem?_eq_getElem hlt,hp,fun x hx=>?_⟩
  obtain ⟨j,hj⟩:=List.mem_iff_getElem?.1 hx
  rw [List.getElem?_take] at hj
  split at hj
  ·rename_i hji
   have h2:=hb j hji
   obtain ⟨h3,rfl⟩:=List.getElem?_eq_some_iff.1 hj
   simpa using h2
  ·cases hj
theorem YP {Pb:Nat→Prop} {w:World} {v:Value} {es:List Ed} (h:RdS rEd 6 Pb w v es): ∃D:List SE,D.map (·.1.1)=es∧D.map (·.2)=List.range es.length∧RdS (flat seC) 6 Pb w v D∧ ∀x∈D,RdS (Wk.one yQ) 1 Pb w (svV x.1.2) x.1.1.args:=by
 rcases h with ⟨rfl,rfl⟩|⟨a,cap,rfl,rfl,hc⟩|⟨b,off,cap,cur,e,fr,rfl,hb,hh,h1,h2,h3,h4⟩
 ·exact ⟨[],rfl,rfl,.inl ⟨rfl,rfl⟩,by simp⟩
 ·exact ⟨[],rfl,rfl,.inr (.inl ⟨a,cap,rfl,rfl,hc⟩),by simp⟩
 ·have hx: ∀i:Nat, ∃s:SV, ∀x,es[i]? =some x→(cur.toList.drop (off+i*6)).take 6=edC x (svV s)∧RdS (Wk.one yQ) 1 Pb w (svV s) x.args:=fun i=>by
   cases hi:es[i]? with
   |none=>exact ⟨(none,0,0),fun x e=>by cases e⟩
   |some x=>
    obtain ⟨u,hu,hr⟩:=h4 i x hi
    obtain ⟨a,c,rfl,_,_⟩:=hr.form
    exact ⟨(a,x.args.length,c),fun y e=>by cases e;exact ⟨hu,hr⟩⟩
  obtain ⟨s,hs⟩:=Classical.axiomOfChoice hx
  refine ⟨es.zipIdx.map fun p=>((p.1,s p.2),p.2),?_,?_,.inr (.inr ⟨b,off,cap,cur,e,fr,by simp,hb,hh,by simpa using h1,h2,by simpa using h3,?_⟩),?_⟩
  ·rw [List.map_map]
   exact List.zipIdx_map_fst 0 es
  ·rw [List.map_map]
   show es.zipIdx.map (fun p=>p.2)=_
   rw [List.zipIdx_map_snd,List.range_eq_range']
  ·intro i x hx'
   rw [List.getElem?_map,List.getElem?_zipIdx] at hx'
   cases hi:es[i]? with
   |none=>rw [hi] at hx';cases hx'
   |some y=>
    rw [hi] at hx'
    simp only [Option.map_some,Nat.zero_add] at hx'
    cases hx'
    exact (hs i y hi).1
  ·intro x hx'
   obtain ⟨⟨y,i⟩,hm,rfl⟩:=List.mem_map.1 hx'
   rw [List.mem_zipIdx_iff_getElem?] at hm
   exact (hs i y hm).2
theorem VY {Pb Pe:Nat→Prop} {w:World} {v:Value} {D:List SE} (h:RdS (flat seC) 6 Pb w v D) (hP: ∀b,Pb b→Pe b) (ha: ∀x∈D,RdS (Wk.one yQ) 1 Pe w (svV x.1.2) x.1.1.args):RdS rEd 6 Pe w v (D.map (·.1.1)):=by
 rcases h with ⟨rfl,rfl⟩|⟨a,cap,rfl,rfl,hc⟩|⟨b,off,cap,cur,e,fr,rfl,hb,hh,h1,h2,h3,h4⟩
 ·exact .inl ⟨rfl,rfl⟩
 ·exact .inr (.inl ⟨a,cap,rfl,rfl,hc⟩)
 ·refine .inr (.inr ⟨b,off,cap,cur,e,fr,by simp,hP b hb,hh,by simpa using h1,h2,by simpa using h3,fun i x hx=>?_⟩)
  rw [List.getElem?_map] at hx
  obtain ⟨y,hy,rfl⟩:=Option.map_eq_some_iff.1 hx
  exact ⟨_,h4 i y hy,ha y (List.mem_of_getElem? hy)⟩
theorem Ld {Pb:Nat→Prop} {w:World} {v:Value} {l:List SE} (h:RdS (flat seC) 6 Pb w v l) (hl:l.length≤20000000):
 Calls Tryz.prog 135 #[v] w (Ret fun r w'=>qP (fun b=>w.heap.size≤b) w' r l∧New w w'):=by
 obtain ⟨a,cap,rfl,hc1,hc2⟩:=h.form
 refine mQ Tryz.func135 rfl Tryz.ntmps135 rfl ?_
 (repeat' (first|refine aa0 ?_|refine aa1 ?_|refine af ?_|refine ah ?_|refine aj ?_|refine ai ?_))
 refine iw rfl rfl ?_
 cases a with
 |none=>
  have e:l=[]:=by
   rcases h with ⟨_,rfl⟩|⟨_,_,e,_⟩|⟨_,_,_,_,_,_,e,_⟩
   ·rfl
   ·cases e
   ·cases e
  subst e
  (repeat' (first|refine aa1 ?_|refine af ?_|refine ah ?_|refine aj ?_|refine ai ?_|refine ax ?_|refine aN ?_|refine aa3 ?_))
  exact aA rfl rfl ⟨_,rfl,bK,aV _ _⟩
 |some a=>
  (repeat' (first|refine af ?_|refine ah ?_|refine aj ?_|refine ai ?_|refine Wc.skip ?_|refine aa4 ?_))
  refine iO (R:=flat seC) (Pe:=NoB) fun v1 w1 o1 n1=>?_
  (repeat' (refine aa0 ?_))
  refine dH Nv o1 (h.keep (nU seC) n1.keep) (fun y cs hy=>hy) rfl rfl (by omega) (by simp only [maxLen,List.length_nil];omega) (by simp only [List.length_nil];omega) fun v2 w2 o2 c2 lie _=>?_
  (repeat' (first|refine aa1 ?_|refine af ?_|refine ah ?_|refine ax ?_))
  refine aA rfl rfl ⟨_,rfl,?_,Chg.trans n1 c2 fun k hk e=>by have:=(o1.lt e).1;omega⟩
  have hs:=n1.size
  exact o2.mono (nP seC) (fun b _ hb=>by rcases hb with hb|hb;exact hb;omega) (fun _ _ e=>e)
theorem EP {Pb:Nat→Prop} {w:World} {v:Value} {l:List SE} {p:SE→Bool} {g:FuncId} {cap:Array Value} [hc:mX Tryz.prog g] (h:RdS (flat seC) 6 Pb w v l)
 (hf: ∀y w',y∈l→New w w'→Calls Tryz.prog g ([Value.agg (seC y).toArray]++cap.toList).toArray w' (Ret fun r w''=>r=.bool (p y)∧New w' w'')):
 Calls Tryz.prog 189 #[v,.func (.func g) #[] cap] w (Ret fun r w'=>r=vi (idx p l)∧New w w'):=by
 obtain ⟨a,cp,rfl,hc1,hc2⟩:=h.form
 simp only [maxLen] at hc2
 refine mQ Tryz.func189 rfl Tryz.ntmps189 rfl ?_
 (repeat' (first|refine aa0 ?_|refine aa1 ?_|refine af ?_|refine aO rfl ?_|refine ah ?_|refine aj ?_|refine ai ?_|refine Wc.block ?_))
 refine aU (σ:=Nat) (fun i=>[(0,.slice a l.length cp),(1,.func (.func g) #[] cap),(7,vi l.length),(8,vi i)]) (fun i w'=>i≤l.length∧(∀x∈l.take i,p x=false)∧New w w') (fun i=>l.length-i) 0 ⟨rfl,rfl,rfl,rfl,trivial⟩ ⟨Nat.zero_le _,by simp,aV _ _⟩ ?_
 rintro i G w1 ⟨hi,hall,n1⟩
 simp only [oO]
 (repeat' (first|refine aa0 ?_|refine aa1 ?_|refine af ?_|refine ah ?_|refine aj ?_|refine ai ?_|refine Wc.block ?_|refine Wc.skip ?_|refine aQ ?_|refine ax ?_|refine aS ?_|refine aP ?_|refine aT ?_|refine aa3 ?_|refine aa4 ?_|refine aa9 (fun _=>?_) (fun _=>?_)))
 ·obtain ⟨y,hy⟩:=nN l (k:=i) (by omega)
  refine dW h n1.keep rfl rfl (by omega) hy fun b o cs hl hR hat=>?_
  obtain rfl:cs=seC y:=hR
  refine bQ hat rfl rfl ?_
  refine dG (dst:=some 16) rfl (hf y w1 (List.mem_of_getElem? hy) n1) rfl ?_
  rintro _ w2 ⟨rfl,n2⟩
  simp only [zy]
  cases hp:p y with
  |true=>
   (repeat' (first|refine aa0 ?_|refine aa1 ?_|refine af ?_|refine ah ?_|refine aj ?_|refine ai ?_|refine ax ?_|refine aN ?_|refine bf ?_|refine bG ?_|refine aa3 ?_))
   refine aA rfl rfl ⟨_,rfl,?_,New.trans n1 n2⟩
   rw [IX hy hall hp];rfl
  |false=>
   (repeat' (first|refine aa0 ?_|refine af ?_|refine ah ?_|refine ai ?_|refine Wc.skip ?_|refine aJ ?_|refine aa4 ?_|refine aa7 ?_))
   exact aK (i+1) ⟨rfl,rfl,rfl,rfl,trivial⟩ ⟨by omega,FK hy hall hp,New.trans n1 n2⟩ (by omega)
 ·have e:i=l.length:=by omega
  subst e
  rw [List.take_length] at hall
  refine aA rfl rfl ⟨_,rfl,?_,n1⟩
  rw [CB hall];rfl
theorem DW {Pb:Nat→Prop} {w:World} {v:Value} {l:List SE} {p:SE→Bool} {fg:FuncId} {fc:Array Value} [hc:mX Tryz.prog fg] (h:qP Pb w v l)
 (hf: ∀y w',y∈l→Chg (fun b=>v.ownBlock=some b) w w'→Calls Tryz.prog fg ([Value.agg (seC y).toArray]++fc.toList).toArray w' (Ret fun r w''=>r=.bool (p y)∧New w' w'')):
 Calls Tryz.prog 134 #[v,.func (.func fg) #[] fc] w (Ret fun r w'=>qP Pb w' r (l.filter fun y=> !p y)∧(∀b,r.ownBlock=some b→v.ownBlock=some b)∧Chg (fun b=>v.ownBlock=some b) w w'):=by
 refine mQ Tryz.func134 rfl Tryz.ntmps134 rfl ?_
 (repeat' (first|refine aa0 ?_|refine aa1 ?_|refine af ?_|refine ah ?_|refine aj ?_|refine ai ?_))
 refine ay (EP (h.rd (nP seC)) (fun y w' hy hn=>hf y w' hy hn.any)) rfl ?_
 rintro _ w1 ⟨rfl,n1⟩
 rcases QH p l with ⟨e,hno⟩|⟨i,y0,e,hi0,hpy,hbef⟩
 ·rw [e]
  (repeat' (first|refine aa0 ?_|refine aa1 ?_|refine af ?_|refine ah ?_|refine aj ?_|refine ai ?_|refine ax ?_|refine aN ?_|refine aa3 ?_|(refine bV rfl rfl (fun _=>?_) (fun _=>?_)<;>(first|(exfalso;omega)|skip))))
  refine aA rfl rfl ⟨_,rfl,?_,fun b hb=>hb,n1.any⟩
  rw [List.filter_eq_self.2 (fun y hy=>by simp [hno y hy])]
  exact h.new (mV seC) n1
 ·rw [e]
  have hil:i<l.length:=(List.getElem?_eq_some_iff.1 hi0).1
  obtain ⟨g,cap,rfl,hgb,hgl,hob⟩:=h.blk (by intro e;rw [e] at hil;simp at hil)
  obtain ⟨_,_,hfm,hcap,hmax⟩:=h.form
  cases hfm
  simp only [maxLen] at hmax
  (repeat' (first|refine aa0 ?_|refine aa1 ?_|refine af ?_|refine ah ?_|refine aj ?_|refine ai ?_|refine Wc.block ?_|refine Wc.skip ?_|refine aa4 ?_|refine aa7 ?_|(refine bV rfl rfl (fun _=>?_) (fun _=>?_)<;>(first|(exfalso;omega)|skip))))
  refine aU (σ:=Nat×Nat×List SE) (fun s=>[(0,.slice (some ⟨g,0,none⟩) l.length cap),(1,.func (.func fg) #[] fc),(5,vi s.1),(6,vi s.2.1)])
   (fun s w'=>s.1<s.2.1∧s.2.1≤l.length∧s.2.2.length=l.length∧s.2.2.take s.1=(l.take s.2.1).filter (fun y=> !p y)∧s.2.2.drop s.2.1=l.drop s.2.1∧qP Pb w' (.slice (some ⟨g,0,none⟩) l.length cap) s.2.2∧Chg (fun b=>(Value.slice (some (⟨g,0,none⟩:Addr)) l.length cap).ownBlock=some b) w w') (fun s=>l.length-s.2.1)
   (i,i+1,l) ⟨rfl,rfl,rfl,rfl,trivial⟩ ⟨by simp,by simp only;omega,rfl,?_,rfl,h.new (mV seC) n1,n1.any⟩ ?_
  ·simp only
   rw [take_snoc hi0,List.filter_append,List.filter_eq_self.2 (fun y hy=>by simp [hbef y hy])]
   simp [hpy]
  rintro ⟨i,j,xs⟩ G w2 ⟨hij,hj,hxl,htk,hdr,ox,c2⟩
  dsimp only at hij hj hxl htk hdr ox c2
  simp only [oO]
  (repeat' (first|refine aa0 ?_|refine af ?_|refine aO rfl ?_|refine ah ?_|refine aj ?_|refine ai ?_|refine Wc.block ?_|refine Wc.skip ?_|refine aQ ?_|refine aS ?_|refine aP ?_|refine aT ?_|refine aa3 ?_|refine aa4 ?_|refine aa9 (fun _=>?_) (fun _=>?_)))
  ·obtain ⟨y,hy⟩:=nN l (k:=j) (by omega)
   have hxy:xs[j]? =some y:=by
    have:=congrArg (fun q=>q[0]?) hdr
    simpa [hy] using this
   have hox:qP Pb w2 (.slice (some ⟨g,0,none⟩) l.length cap) xs:=ox
   have hrd:=ox.rd (nP seC)
   refine bD hrd rfl rfl (by omega) hxy fun b o cs hl hR hat=>?_
   obtain rfl:cs=seC y:=hR
   refine bQ hat rfl rfl ?_
   refine Wl.alloc fun w3 b3 n3 s3=>?_
   refine aX (new:=seC y) b3 rfl rfl rfl rfl (show (6:Nat)≤6 from Nat.le_refl 6) (EM y) fun w4 b4 c4 s4=>?_
   replace b4:Bk w4 w2.heap.size 150 (seC y):=b4
   have hs2:=c2.size
   have n24:New w2 w4:=Chg.trans n3 c4 fun k hk e=>by omega
   have ox4:=ox.new (mV seC) n24
   have c24:=Chg.trans c2 (n24.any (M:=fun b=>(Value.slice (some (⟨g,0,none⟩:Addr)) l.length cap).ownBlock=some b)) fun _ _ e=>e
   (repeat' (first|refine aa0 ?_|refine af ?_|refine ah ?_|refine aj ?_|refine ai ?_))
   refine dh b4 rfl rfl ?_
   refine dG (dst:=some 28) rfl (hf y w4 (List.mem_of_getElem? hy) c24) rfl ?_
   rintro _ w5 ⟨rfl,n5⟩
   simp only [zy]
   have b5:=b4.chg n5 id
   have ox5:=ox4.new (mV seC) n5
   have c5:=Chg.trans c24 (n5.any (M:=fun b=>(Value.slice (some (⟨g,0,none⟩:Addr)) l.length cap).ownBlock=some b)) fun _ _ e=>e
   cases hp:p y with
   |true=>
    (repeat' (first|refine aa0 ?_|refine aa1 ?_|refine af ?_|refine aZ rfl ?_|refine ah ?_|refine ai ?_|refine Wc.skip ?_|refine aJ ?_|refine aa4 ?_|refine aa7 ?_))
    refine aK (i,j+1,xs) ⟨rfl,rfl,rfl,rfl,trivial⟩ ⟨by dsimp only;omega,by dsimp only;omega,hxl,?_,?_,ox5,c5⟩ (by dsimp only;omega)
    ·dsimp only
     rw [htk,take_snoc hy,List.filter_append];simp [hp]
    ·dsimp only
     have:=congrArg (List.drop 1) hdr
     simpa [List.drop_drop] using this
   |false=>
    (repeat' (first|refine aa0 ?_|refine af ?_|refine aZ rfl ?_|refine ah ?_|refine aj ?_|refine ai ?_|refine aa3 ?_))
    refine dh b5 rfl rfl ?_
    refine dQ rfl rfl (by omega) (by omega) ?_
    refine fD (f:=seC) (q:=y) (j:=i) (sz:=6) (cap:=cap) (fun _=>rfl) EM ox5 (by rw [hxl]) (by omega) (by show Value.pointer (some ⟨g,0+(i:Int).toNat*6,none⟩)=_;simp) rfl rfl fun w6 o6 c6=>?_
    (repeat' (first|refine aa0 ?_|refine aa1 ?_|refine af ?_|refine ah ?_|refine ai ?_|refine aJ ?_|refine aa7 ?_))
    refine aK (i+1,j+1,xs.set i y) ⟨rfl,rfl,rfl,rfl,trivial⟩ ⟨by dsimp only;omega,by dsimp only;omega,by simpa using hxl,?_,?_,o6,Chg.trans c5 c6 fun _ _ e=>e⟩ (by dsimp only;omega)
    ·dsimp only
     have hget:(xs.set i y)[i]? =some y:=by rw [List.getElem?_set,if_pos rfl,if_pos (by omega)]
     rw [take_snoc hget,List.take_set_of_le (Nat.le_refl i),htk,take_snoc hy,List.filter_append];simp [hp]
    ·dsimp only
     rw [List.drop_set_of_lt (by omega)]
     have:=congrArg (List.drop 1) hdr
     simpa [List.drop_drop] using this
  ·have e:j=l.length:=by omega
   subst e
   rw [List.take_length] at htk
   refine jl (f:=seC) (i:=i) (cap:=cap) (by simp [Value.cells];exact ⟨rfl,rfl,rfl,rfl,rfl⟩) ox (by rw [hxl]) rfl rfl (by omega) rfl fun u w3 o3 c3=>?_
   (repeat' (first|refine aa0 ?_|refine af ?_|refine ah ?_|refine aj ?_|refine ai ?_))
   refine jm rfl rfl (by omega) ?_
   (repeat' (first|refine aa1 ?_|refine af ?_|refine ah ?_|refine ax ?_))
   refine aA rfl rfl ⟨_,rfl,?_,fun b hb=>hb,Chg.trans c2 c3 fun _ _ e=>e⟩
   rw [←htk]
   exact o3
end Go.Proofs.YtjecgaiaiophpaaGreatDoor
