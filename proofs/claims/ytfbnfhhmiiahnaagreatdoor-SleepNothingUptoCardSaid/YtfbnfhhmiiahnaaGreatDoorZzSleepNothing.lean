/-
  SleepNothing is true, where what is handed in is of bulk at most 1048576; what is handed in stays. No condition of its own.
-/
import Derived.Test.YtfbnfhhmiiahnaaGreatDoorCards
import Derived.Test.YtfbnfhhmiiahnaaGreatDoorTie
import Derived.ProofKit
import Derived.OpenShut
import Derived.WalkKit
import Derived.ShutString
import Derived.ChangeOld
import Derived.ChangeSame
import Derived.Below
import Derived.Deep.DeepHandedRow
import Derived.Lib.LaidTab
import Derived.Test.YtfbnfhhmiiahnaaGreatDoorZg
set_option linter.all false
set_option maxHeartbeats 16000000
set_option maxRecDepth 8000
namespace Go.Proofs.YtfbnfhhmiiahnaaGreatDoor.sleepNothing
open Go.ChangeShapes Go.WideShapes Go.ChangeAt Go.RowKit
open Go.ChangeMaps (open_string shut_string)
open Go.Proofs.YtfbnfhhmiiahnaaGreatDoor.Wk
theorem own:ownKnob Tryz.prog.godebug=none:=by kernel_rfl
theorem laidOut:laidOutB Tryz.prog=true:=by kernel_rfl
set_option maxRecDepth 100000 in
theorem contract (H:Type) (enc:TypeId×Value→H) (W:World) (base:Nat) (args:Array Value) (ds gs:List (DataW H)) (before:List MemPlace)
 (hval: ∀(j:Nat) t v,Tryz.f4.params[j]? =some t→args[j]? =some v→Value.okWide Tryz.prog W .any base t v)
 (hW:DataW.Whole enc Tryz.prog Tryz.f4.params.toList Rows.sleepNothingSpec.vars false W args.toList ds gs before) (hk:Rows.uptoSmall H (ds++gs)=true):
 Calls Tryz.prog 4 args W fun e W'=> ∃v,e=.returned v∧Rows.sleepNothingSpec.post enc Tryz.prog Tryz.f4 false true false false W args v W':=by
 have hW':=hW
 obtain ⟨p,q,hA0,hV,rfl,hfz,hnd⟩:=hW
 have hA:DataW.TrodAll enc Tryz.prog W 0 (fun _=>true) true Tryz.f4.params.toList args.toList ds p:=hA0
 rw [Tryz.params4] at hA hval
 obtain ⟨v0,vs0,d0,ds0,p0,q0,hargs,rfl,rfl,h0,r0⟩:=trodAll_cons hA
 obtain ⟨v1,vs1,d1,ds1,p1,q1,rfl,rfl,rfl,h1,r1⟩:=trodAll_cons r0
 obtain ⟨v2,vs2,d2,ds2,p2,q2,rfl,rfl,rfl,h2,r2⟩:=trodAll_cons r1
 obtain ⟨rfl,rfl,rfl⟩:=trodAll_nil r2
 obtain rfl:args= #[v0,v1,v2]:=by cases args;simp_all
 obtain ⟨rfl,rfl⟩:=trodVars_none hV
 have k0:=h0
 have lt0: ∀x∈p0,x.block<W.heap.size:=by obtain ⟨m,hm⟩:=k0;exact DataW.trod_lt m _ _ _ hm
 have k1:=h1
 have lt1: ∀x∈p1,x.block<W.heap.size:=by obtain ⟨m,hm⟩:=k1;exact DataW.trod_lt m _ _ _ hm
 have k2:=h2
 have lt2: ∀x∈p2,x.block<W.heap.size:=by obtain ⟨m,hm⟩:=k2;exact DataW.trod_lt m _ _ _ hm
 obtain ⟨cs0,rfl,_⟩:=okWide_struct Tryz.underlying26 (hval 0 26 v0 rfl rfl)
 obtain ⟨f0,g0⟩:=h0
 obtain ⟨x0,rr0,dd0⟩:=aap H enc W f0 _ _ _ g0
 obtain ⟨tv0,cv0,fv0,gv0,e0,rg0⟩:=rr0 (fun _=>True) (fun _ _=>trivial)
 obtain rfl:=cells4 e0
 obtain ⟨a1,len1,cap1,rfl⟩:=okWide_slice Tryz.underlying27 (hval 1 27 v1 rfl rfl)
 obtain ⟨f1,g1⟩:=h1
 obtain ⟨x1,rr1,dd1⟩:=vO Tryz.underlying27 cMv (by decide) RJ H enc W f1 _ _ _ g1
 obtain ⟨u1,e1,rr1⟩:=rr1 (fun _=>True) (fun _ _=>trivial)
 simp only [Value.cells,List.cons.injEq,and_true] at e1
 subst e1
 have bb1:=vJ dd1
 obtain ⟨cs2,rfl,_⟩:=okWide_struct Tryz.underlying50 (hval 2 50 v2 rfl rfl)
 obtain ⟨f2,g2⟩:=h2
 obtain ⟨x2,rr2,dd2⟩:=RJ H enc W f2 _ _ _ g2
 obtain ⟨rv2,wv2,e2,rw2,ww2⟩:=rr2 (fun _=>True) (fun _ _=>trivial)
 obtain rfl:=cells4 e2
 have hb:Rows.uptoBulkAll [d0,d1,d2]≤1048576:=of_decide_eq_true (by simpa [Rows.uptoSmall] using hk)
 simp only [Rows.uptoBulkAll] at hb
 clear hA0
 simp only [List.append_nil] at hW'
 refine (RG rg0 (acj dd0 (by omega)).1 (acj dd0 (by omega)).2 rr1 (af9 dd1 (by omega)) rw2 ww2 (aga dd2 (by omega))).mono fun e W' ⟨v,he,hv,hn⟩=>?_
 subst he
 subst hv
 have bel:=hn.below
 exact ⟨_,rfl,_,_,_,[],_,[],hW',trodAll_mk1 (shut_bool Tryz.underlying4 _),
  (trodAll_cons_mk (Below.trod laidOut (by kernel_rfl) (of_decide_eq_true (by kernel_rfl)) k0 bel lt0) (trodAll_cons_mk (Below.trod laidOut (by kernel_rfl) (of_decide_eq_true (by kernel_rfl)) k1 bel lt1) (trodAll_cons_mk (Below.trod laidOut (by kernel_rfl) (of_decide_eq_true (by kernel_rfl)) k2 bel lt2) trodAll_mk0))),rfl,bel.frame _,fun h=>by cases h⟩
def VQ (cs:Array Value):Obj→Obj
 | .cells _ t frozen=>.cells cs t frozen
 |o=>o
def u8s (l:List Int):Array Value:=(l.map fun n:Int=>Value.int .u8 n).toArray
def acc:List Int:=[128,191,160,191,128,159,144,191,128,143,0,0,0,0,0,0,0,0,0,0,0,0,0,0,0,0,0,0,0,0,0,0]
noncomputable def laidWorld (os:Os):World:=
 let w0:=World.holding Tryz.prog os ⟨#[], #[],[]⟩
 {w0 with heap:=(w0.heap.modify 1 (VQ (Go.Pinned.utf8FirstZ.map fun n:Nat=>Value.int .u8 (n:Int)).toArray)).modify 2 (VQ (u8s acc))}
theorem laid_met (os:Os):laidMet Tryz.prog Rows.sleepNothingRow.laid ((laidWorld os).forCall (fun _ _=>0) ⟨#[], #[.agg #[.slice none 0 0,.slice none 0 0,.slice none 0 0,.slice none 0 0],.slice none 0 0,.agg #[.int .i64 0,.int .i64 0,.slice none 0 0,.slice none 0 0]],[]⟩).memory:=
 laidMet_of_run' 8 (by kernel_rfl) (by kernel_rfl)
theorem reads (os:Os) {H:Type} (enc:TypeId×Value→H): ∃places,DataW.whole enc Tryz.prog ((laidWorld os).forCall (fun _ _=>0) ⟨#[], #[.agg #[.slice none 0 0,.slice none 0 0,.slice none 0 0,.slice none 0 0],.slice none 0 0,.agg #[.int .i64 0,.int .i64 0,.slice none 0 0,.slice none 0 0]],[]⟩).memory Tryz.f4.params.toList Rows.sleepNothingSpec.vars false (#[.agg #[.slice none 0 0,.slice none 0 0,.slice none 0 0,.slice none 0 0],.slice none 0 0,.agg #[.int .i64 0,.int .i64 0,.slice none 0 0,.slice none 0 0]]:Array Value).toList 8=some ([.agg [.nil,.nil,.nil,.nil],.nil,.agg [.lit (.int .i64 0),.lit (.int .i64 0),.nil,.nil]],[],places):=
 ⟨[],by kernel_rfl⟩
set_option maxRecDepth 100000 in
theorem lifted (os:Os) (started:os.Started) (H:Type) (enc:TypeId×Value→H) (F:Stop.Interp):
 ReturnsInHanded {} Tryz.checked os 4 .any ((Rows.OpenSpec.upto Rows.sleepNothingSpec).preRow enc Tryz.prog Tryz.f4 Rows.sleepNothingUptoRow.domain false Rows.sleepNothingUptoRow.laid) (((Rows.OpenSpec.upto Rows.sleepNothingSpec).at F).post enc Tryz.prog Tryz.f4 false true false false):=by
 obtain ⟨places,hx⟩:=reads os enc
 refine returnsInHanded_of_row (C:=Tryz.checked) (s:=Rows.OpenSpec.upto Rows.sleepNothingSpec) own started (by kernel_rfl) Tryz.func4
  (witness_row_at (enc:=enc) (C:=Tryz.checked) false (laidWorld os) #[.agg #[.slice none 0 0,.slice none 0 0,.slice none 0 0,.slice none 0 0],.slice none 0 0,.agg #[.int .i64 0,.int .i64 0,.slice none 0 0,.slice none 0 0]] rfl (by kernel_rfl) (by kernel_rfl) (by kernel_rfl)
    (OpenSpec.preRow_of_cond 8 hx (by kernel_rfl) (fun k hk=>by cases hk;kernel_rfl) (by kernel_rfl) (laid_met os))) ?_
 intro W base args ds gs before hval hW _ hcond _ _ _ _
 exact contract H enc W base args ds gs before hval hW (hcond _ rfl)
theorem f10:(Rows.sleepNothingUptoRow.inPlace == Tryz.prog.inPlace 4)=true:=by kernel_rfl
theorem f11:(Rows.sleepNothingUptoRow.unfollowed == Tryz.prog.unfollowed 4)=true:=by kernel_rfl
theorem f12:(Rows.sleepNothingUptoRow.recurses == Tryz.prog.recurses 4)=true:=by kernel_rfl
theorem f13:(Rows.sleepNothingUptoRow.named == Tryz.prog.varsNamed 4)=true:=by kernel_rfl
theorem f27:(Rows.sleepNothingUptoRow.lifted == Tryz.prog.liftsFinal)=true:=by kernel_rfl
theorem f28:(Tryz.prog.make == some Rows.sleepNothingUptoRow.make)=true:=by kernel_rfl
theorem f23:(Rows.sleepNothingUptoRow.plainKeys == Tryz.prog.plainKeys)=true:=by kernel_rfl
theorem facts:joinedFacts Tryz.prog 4 Tryz.f4 (Rows.OpenSpec.upto Rows.sleepNothingSpec).bare Rows.sleepNothingUptoRow=true:=
 XQ (by kernel_rfl) agc agb (by kernel_rfl) (by kernel_rfl) rfl (by kernel_rfl) rfl (by kernel_rfl) f10 f11 f12 f13 (by kernel_rfl) (by kernel_rfl) (by kernel_rfl) (by kernel_rfl) (by kernel_rfl) (by kernel_rfl) (by kernel_rfl) (by kernel_rfl) (by kernel_rfl) f23 (by kernel_rfl) adH akV f27 f28 (by kernel_rfl) (by kernel_rfl) (by kernel_rfl) (by kernel_rfl)
theorem adI:joinedFacts Tryz.pinned.checked.prog 4 Tryz.f4 (Rows.OpenSpec.upto Rows.sleepNothingSpec).bare Rows.sleepNothingUptoRow=true:=by
 have e:Tryz.pinned.checked.prog=Tryz.prog:=by kernel_rfl
 rw [e];exact facts
set_option maxRecDepth 100000 in
theorem said:Rows.SleepNothingUptoSaid:=
 OpenClaim.holds_of_cond 4 Tryz.f4 rfl rfl rfl rfl rfl rfl rfl ⟨rfl,rfl,rfl,rfl,rfl⟩ rfl rfl rfl rfl rfl (by kernel_rfl) Tryz.func4 adI
  (of_decide_eq_true (by kernel_rfl)) (by unfold Func.isWrapper;first|(rw [if_pos (by decide+kernel)];kernel_rfl)|(rw [if_neg (by decide+kernel)];exact ⟨rfl,rfl⟩))
  (fun os started H enc _ F=>by rw [OpenClaim.pre_eq_preRow];exact lifted os started H enc F)
theorem plain (f:FuncId) (fn:Func) (hf:Tryz.pinned.checked.prog.funcNamed "reveille/reveillelaw24.SleepNothing" =some f) (hfn:Tryz.pinned.checked.prog.funcs[f]? =some fn):
 false=Tryz.pinned.checked.prog.looks []∧ ∀(j:Nat) t,fn.params[j]? =some t→Tryz.pinned.checked.prog.wantsStandIn t=false:=by
 obtain rfl:f=4:=Option.some.inj ((show Tryz.prog.funcNamed "reveille/reveillelaw24.SleepNothing" =some 4 by kernel_rfl).symm.trans hf) |>.symm
 obtain rfl:fn=Tryz.f4:=(Option.some.inj (Tryz.func4.symm.trans hfn)).symm
 refine ⟨by kernel_rfl,fun j t ht=>?_⟩
 rw [Tryz.params4] at ht
 have hm:=Array.mem_of_getElem? ht
 have ht':t=26∨t=27∨t=50:=by simpa using hm
 rcases ht' with rfl|rfl|rfl
 ·exact (show Tryz.prog.wantsStandIn 26=false by kernel_rfl)
 ·exact (show Tryz.prog.wantsStandIn 27=false by kernel_rfl)
 ·exact (show Tryz.prog.wantsStandIn 50=false by kernel_rfl)
theorem proved:Rows.SleepNothingUptoCardSaid:=
 Claim7.holds_tied_plain_at .later [] _ _ _ _ said (fun _ h=>by cases h) (by kernel_rfl) (fun _ h=>by cases h) sleepNothingUpto_row_tie rfl ⟨rfl,rfl⟩ (by kernel_rfl) rfl plain (by kernel_rfl)
end Go.Proofs.YtfbnfhhmiiahnaaGreatDoor.sleepNothing
