/-
  Texts of this claim, one behind the other: Sq, Core, Sy, Mem, Own, Quiet, Ptr, Str, Draw, Open, Arr, Qptr, Mix, Nav, Row, Lex, Cut, Ley, Facts.
-/
import Derived.WalkKit
import Derived.Below
import Derived.Laws.AppendOwn
import Derived.Laws.BytesArg
import Derived.Laws.OwnMore
import Derived.Laws.MakeOwn
import Derived.Deep.DeepMust
import Derived.WalkLawsBesides
import Derived.Scope
import Derived.Deep.Quiet
import Derived.Lib.Builder
import Derived.Lib.AppendStr
import Derived.ProofKit
import Derived.Lib.ConvBytes
import Derived.Maps.Keyed
import Derived.Test.YtfbnfhhmiiahnaaGreatDoorChecked
set_option linter.all false
set_option maxHeartbeats 16000000
set_option maxRecDepth 8000
open Nat renaming le_refl → aap,mul_le_mul_right → aaw,add_mul → aaR,zero_add → ace,blt → ada,blt_eq → ana,min_eq_left → anh,beq → ank,zero_le → anq,mul_one → anx,ne_of_beq_eq_false → anA,add_zero → anN,add_assoc → anU,zero_mul → anV,eq_zero_or_pos → anY,mul_comm → anZ,sub_mul → aog,sub_zero → aoq,lt_or_gt_of_ne → aor,add_comm → aox
open List renaming getElem?_take → aaQ,range → ab8,map_cons → acd,append_assoc → adK,getElem?_drop → ad6,length_append → am7,cons_append → am8,map_toArray → am9,getElem?_append_right → anb,map_nil → anc,eq_nil_of_length_eq_zero → anf,nil_append → ang,mem_filter → anj,getElem?_eq_none → anl,getElem?_append_left → anm,mem_range → ano,take_take → anr,size_toArray → anu,getElem?_eq_getElem → anv,set_append_right → anw,filter_sublist → anz,ext_getElem? → anC,length_take → anD,drop_take → anE,drop_eq_getElem_cons → anF,isEmpty_nil → anG,getElem?_toArray → anH,length_cons → anJ,drop_zero → anK,take_of_length_le → anL,length_singleton → anM,getElem?_set → anO,pairwise_lt_range → anQ,take_left → anR,length_drop → anS,getElem?_append → anW,take_append_of_le_length → anX,take_succ_cons → an0,take_zero → an1,getElem?_map → an3,getD_eq_getElem?_getD → an7,length_nil → an8,set_cons_zero → an9,drop_drop → aoa,take_append_drop → aob,drop_append → aof,getElem_of_mem → aoh,replicate → aok,take_length → aon,mem_map → aoo,mem_of_getElem? → aop,eq_nil_iff_forall_not_mem → aos,append_of_mem → aot,nodup_range → aou,range_succ_eq_map → aoy,map_map → aoz,map_congr_left → aoA,map_id → aoB,mem_cons_of_mem → aoC
open Array renaming getElem?_eq_getElem → aaX,getD_eq_getD_getElem? → ab9,replicate → anp,getElem?_replicate → anB,ext' → anI,length_toList → anT,ext_getElem? → an4,getElem?_setIfInBounds → an5,foldl_toList → aoc,toList_zipIdx → aod,toList_append → aoe,toList_setIfInBounds → aol
open Option renaming map_some → am6,map_none → ani,map → aom
open Int renaming eq_ofNat_of_zero_le → ane,toNat_natCast → ant,emod_eq_of_lt → an2,natCast_mul → aoi,le_refl → aoj
open Bool renaming and_eq_true → ann,false_eq_true → anP,eq_false_iff → an6,or_eq_true → aov,false_or → aow
open Go.Proofs.Tryz
namespace Go.Proofs.YtfbnfhhmiiahnaaGreatDoor
theorem i3 {α:Sort _} {β:α->Sort _} {p: ∀a,β a->Prop} (a:α) (b:β a) (e:p a b):p a b:=e
theorem zl2:(2:Nat)<=2:=aap 2
theorem zl3:(3:Nat)<=3:=aap 3
theorem zl4:(4:Nat)<=4:=aap 4
theorem zl5:(5:Nat)<=5:=aap 5
theorem zl6:(6:Nat)<=6:=aap 6
theorem zl7:(7:Nat)<=7:=aap 7
theorem zl8:(8:Nat)<=8:=aap 8
theorem zl9:(9:Nat)<=9:=aap 9
structure Hid (q:Prop):Prop where
 out:q
theorem MR {p q:Prop} (h:q) (k:Hid q->p:=by intro h;(first|refine aa7 ?_|refine ai ?_|refine dw rfl ?_|refine dO ?_|refine gy rfl ?_|refine di ?_|refine gB ?_|refine Qdb.ret ?_|refine eu ?_|refine gG ?_);exact h.1):p:=k ⟨h⟩
theorem MS {p q:Prop} (h:q) (k:Hid q->p:=by intro h;refine MR ?_;(try (refine MR ?_;(try (refine MR ?_;(try (refine MR ?_;(try (refine MR ?_;(try (refine MR ?_;(try (refine MR ?_;(try (refine MR ?_))))))))))))));exact h.1):p:=k ⟨h⟩
theorem qq0 {p q:Prop} (h:q) (k:Hid q->p:=by intro h;refine MS ?_;(try (refine MS ?_;(try (refine MS ?_;(try (refine MS ?_;(try (refine MS ?_;(try (refine MS ?_;(try (refine MS ?_;(try (refine MS ?_))))))))))))));exact h.1):p:=k ⟨h⟩
theorem MV {p q:Prop} (h:q) (k:Hid q->p:=by intro h;(first|refine aa7 ?_|refine ai ?_|refine aO rfl rfl ?_|refine xO ?_|refine bU rfl ?_|refine dO ?_|refine Wd.block ?_|refine gy rfl ?_|refine iI rfl ?_|refine di ?_|refine gB ?_|refine eu ?_|refine Wd.skip ?_|refine gG ?_|refine aa5 ?_);exact h.1):p:=k ⟨h⟩
theorem MW {p q:Prop} (h:q) (k:Hid q->p:=by intro h;refine MV ?_;(try (refine MV ?_;(try (refine MV ?_;(try (refine MV ?_;(try (refine MV ?_;(try (refine MV ?_;(try (refine MV ?_;(try (refine MV ?_))))))))))))));exact h.1):p:=k ⟨h⟩
theorem qq1 {p q:Prop} (h:q) (k:Hid q->p:=by intro h;refine MW ?_;(try (refine MW ?_;(try (refine MW ?_;(try (refine MW ?_;(try (refine MW ?_;(try (refine MW ?_;(try (refine MW ?_;(try (refine MW ?_))))))))))))));exact h.1):p:=k ⟨h⟩
theorem MX {p q:Prop} (h:q) (k:Hid q->p:=by intro h;(first|refine aa1 ?_|refine aa7 ?_|refine ai ?_|refine eF rfl rfl ?_|refine aO rfl rfl ?_|refine dH rfl rfl ?_|refine dK rfl (by conv=>{lhs;whnf}) ?_|refine xO ?_|refine dw rfl ?_|refine bU rfl ?_|refine aP ?_|refine aN ?_|refine aQ ?_|refine Wc.block ?_|refine Wc.skip ?_|refine dP ?_|refine gI ?_|refine jC ?_|refine dL ?_|refine fJ ?_|refine fK ?_|refine bF rfl ?_|refine dm rfl ?_|refine iJ rfl ?_|refine aa5 ?_|refine Wl.add rfl rfl (by omega) (by omega) ?_|refine Wl.sub rfl rfl (by omega) (by omega) ?_);exact h.1):p:=k ⟨h⟩
theorem MZ {p q:Prop} (h:q) (k:Hid q->p:=by intro h;refine MX ?_;(try (refine MX ?_;(try (refine MX ?_;(try (refine MX ?_;(try (refine MX ?_;(try (refine MX ?_;(try (refine MX ?_;(try (refine MX ?_))))))))))))));exact h.1):p:=k ⟨h⟩
theorem qq2 {p q:Prop} (h:q) (k:Hid q->p:=by intro h;refine MZ ?_;(try (refine MZ ?_;(try (refine MZ ?_;(try (refine MZ ?_;(try (refine MZ ?_;(try (refine MZ ?_;(try (refine MZ ?_;(try (refine MZ ?_))))))))))))));exact h.1):p:=k ⟨h⟩
theorem Na {p q:Prop} (h:q) (k:Hid q->p:=by intro h;(first|refine aa1 ?_|refine aa7 ?_|refine ai ?_|refine eF rfl rfl ?_|refine aO rfl rfl ?_|refine dH rfl rfl ?_|refine iw rfl ?_|refine dK rfl (by conv=>{lhs;whnf}) ?_|refine xO ?_|refine dw rfl ?_|refine iK rfl ?_|refine aP ?_|refine aN ?_|refine aQ ?_|refine dP ?_|refine gI ?_|refine Qsc.ret ?_|refine fJ ?_|refine fK ?_|refine bF rfl ?_|refine iJ rfl ?_|refine aa5 ?_);exact h.1):p:=k ⟨h⟩
theorem Nc {p q:Prop} (h:q) (k:Hid q->p:=by intro h;refine Na ?_;(try (refine Na ?_;(try (refine Na ?_;(try (refine Na ?_;(try (refine Na ?_;(try (refine Na ?_;(try (refine Na ?_;(try (refine Na ?_))))))))))))));exact h.1):p:=k ⟨h⟩
theorem qq3 {p q:Prop} (h:q) (k:Hid q->p:=by intro h;refine Nc ?_;(try (refine Nc ?_;(try (refine Nc ?_;(try (refine Nc ?_;(try (refine Nc ?_;(try (refine Nc ?_;(try (refine Nc ?_;(try (refine Nc ?_))))))))))))));exact h.1):p:=k ⟨h⟩
theorem Nh {p q:Prop} (h:q) (k:Hid q->p:=by intro h;(first|refine aa1 ?_|refine aa7 ?_|refine ai ?_|refine bU rfl ?_|refine iK rfl ?_|refine aP ?_|refine aN ?_|refine aQ ?_|refine Wc.block ?_|refine Wc.skip ?_|refine dV ?_|refine dP ?_|refine eG ?_|refine gI ?_|refine jC ?_|refine dJ ?_|refine dQ ?_|refine bF rfl ?_|refine dm rfl ?_|refine aa5 ?_|refine Wl.sub rfl rfl (by omega) (by omega) ?_);exact h.1):p:=k ⟨h⟩
theorem Nj {p q:Prop} (h:q) (k:Hid q->p:=by intro h;refine Nh ?_;(try (refine Nh ?_;(try (refine Nh ?_;(try (refine Nh ?_;(try (refine Nh ?_;(try (refine Nh ?_;(try (refine Nh ?_;(try (refine Nh ?_))))))))))))));exact h.1):p:=k ⟨h⟩
theorem qq4 {p q:Prop} (h:q) (k:Hid q->p:=by intro h;refine Nj ?_;(try (refine Nj ?_;(try (refine Nj ?_;(try (refine Nj ?_;(try (refine Nj ?_;(try (refine Nj ?_;(try (refine Nj ?_;(try (refine Nj ?_))))))))))))));exact h.1):p:=k ⟨h⟩
theorem Nk {p q:Prop} (h:q) (k:Hid q->p:=by intro h;(first|refine aa1 ?_|refine aa7 ?_|refine ai ?_|refine eF rfl rfl ?_|refine aO rfl rfl ?_|refine dH rfl rfl ?_|refine dK rfl (by conv=>{lhs;whnf}) ?_|refine xO ?_|refine dw rfl ?_|refine bU rfl ?_|refine iK rfl ?_|refine aP ?_|refine aN ?_|refine aQ ?_|refine Wc.block ?_|refine Wc.skip ?_|refine dP ?_|refine gI ?_|refine bF rfl ?_|refine dm rfl ?_|refine Wl.sub rfl rfl (by omega) (by omega) ?_|refine gK rfl ?_);exact h.1):p:=k ⟨h⟩
theorem Nl {p q:Prop} (h:q) (k:Hid q->p:=by intro h;refine Nk ?_;(try (refine Nk ?_;(try (refine Nk ?_;(try (refine Nk ?_;(try (refine Nk ?_;(try (refine Nk ?_;(try (refine Nk ?_;(try (refine Nk ?_))))))))))))));exact h.1):p:=k ⟨h⟩
theorem qq5 {p q:Prop} (h:q) (k:Hid q->p:=by intro h;refine Nl ?_;(try (refine Nl ?_;(try (refine Nl ?_;(try (refine Nl ?_;(try (refine Nl ?_;(try (refine Nl ?_;(try (refine Nl ?_;(try (refine Nl ?_))))))))))))));exact h.1):p:=k ⟨h⟩
theorem Np {p q:Prop} (h:q) (k:Hid q->p:=by intro h;(first|refine aa1 ?_|refine aa7 ?_|refine ai ?_|refine eF rfl rfl ?_|refine aP ?_|refine aN ?_|refine aQ ?_|refine Wc.block ?_|refine Wc.skip ?_|refine dV ?_|refine eG ?_|refine dL ?_|refine dJ ?_|refine dQ ?_|refine bF rfl ?_|refine dm rfl ?_|refine iJ rfl ?_|refine aa5 ?_|refine Wl.add rfl rfl (by omega) (by omega) ?_|refine Wl.sub rfl rfl (by omega) (by omega) ?_|refine jd rfl rfl (by omega) (by omega) ?_);exact h.1):p:=k ⟨h⟩
theorem Nq {p q:Prop} (h:q) (k:Hid q->p:=by intro h;refine Np ?_;(try (refine Np ?_;(try (refine Np ?_;(try (refine Np ?_;(try (refine Np ?_;(try (refine Np ?_;(try (refine Np ?_;(try (refine Np ?_))))))))))))));exact h.1):p:=k ⟨h⟩
theorem qq6 {p q:Prop} (h:q) (k:Hid q->p:=by intro h;refine Nq ?_;(try (refine Nq ?_;(try (refine Nq ?_;(try (refine Nq ?_;(try (refine Nq ?_;(try (refine Nq ?_;(try (refine Nq ?_;(try (refine Nq ?_))))))))))))));exact h.1):p:=k ⟨h⟩
theorem Nr {p q:Prop} (h:q) (k:Hid q->p:=by intro h;(first|refine aa1 ?_|refine aa7 ?_|refine ai ?_|refine iK rfl ?_|refine aP ?_|refine aN ?_|refine aQ ?_|refine Wc.skip ?_|refine dP ?_|refine gI ?_|refine fJ ?_|refine fK ?_|refine bF rfl ?_|refine dm rfl ?_|refine jd rfl rfl (by omega) (by omega) ?_);exact h.1):p:=k ⟨h⟩
theorem Ns {p q:Prop} (h:q) (k:Hid q->p:=by intro h;refine Nr ?_;(try (refine Nr ?_;(try (refine Nr ?_;(try (refine Nr ?_;(try (refine Nr ?_;(try (refine Nr ?_;(try (refine Nr ?_;(try (refine Nr ?_))))))))))))));exact h.1):p:=k ⟨h⟩
theorem qq7 {p q:Prop} (h:q) (k:Hid q->p:=by intro h;refine Ns ?_;(try (refine Ns ?_;(try (refine Ns ?_;(try (refine Ns ?_;(try (refine Ns ?_;(try (refine Ns ?_;(try (refine Ns ?_;(try (refine Ns ?_))))))))))))));exact h.1):p:=k ⟨h⟩
theorem Nu {p q:Prop} (h:q) (k:Hid q->p:=by intro h;(first|refine aa1 ?_|refine aa7 ?_|refine ai ?_|refine aO rfl rfl ?_|refine dH rfl rfl ?_|refine dK rfl (by conv=>{lhs;whnf}) ?_|refine xO ?_|refine bU rfl ?_|refine aP ?_|refine aN ?_|refine aQ ?_|refine dP ?_|refine bF rfl ?_|refine fM ?_|refine aa5 ?_);exact h.1):p:=k ⟨h⟩
theorem Nv {p q:Prop} (h:q) (k:Hid q->p:=by intro h;refine Nu ?_;(try (refine Nu ?_;(try (refine Nu ?_;(try (refine Nu ?_;(try (refine Nu ?_;(try (refine Nu ?_;(try (refine Nu ?_;(try (refine Nu ?_))))))))))))));exact h.1):p:=k ⟨h⟩
theorem qq8 {p q:Prop} (h:q) (k:Hid q->p:=by intro h;refine Nv ?_;(try (refine Nv ?_;(try (refine Nv ?_;(try (refine Nv ?_;(try (refine Nv ?_;(try (refine Nv ?_;(try (refine Nv ?_;(try (refine Nv ?_))))))))))))));exact h.1):p:=k ⟨h⟩
theorem Nw {p q:Prop} (h:q) (k:Hid q->p:=by intro h;(first|refine aa1 ?_|refine aa7 ?_|refine ai ?_|refine aP ?_|refine aN ?_|refine aQ ?_|refine Wc.skip ?_|refine dL ?_|refine bF rfl ?_|refine dm rfl ?_|refine Wl.add rfl rfl (by omega) (by omega) ?_|refine Wl.sub rfl rfl (by omega) (by omega) ?_);exact h.1):p:=k ⟨h⟩
theorem Ny {p q:Prop} (h:q) (k:Hid q->p:=by intro h;refine Nw ?_;(try (refine Nw ?_;(try (refine Nw ?_;(try (refine Nw ?_;(try (refine Nw ?_;(try (refine Nw ?_;(try (refine Nw ?_;(try (refine Nw ?_))))))))))))));exact h.1):p:=k ⟨h⟩
theorem qq9 {p q:Prop} (h:q) (k:Hid q->p:=by intro h;refine Ny ?_;(try (refine Ny ?_;(try (refine Ny ?_;(try (refine Ny ?_;(try (refine Ny ?_;(try (refine Ny ?_;(try (refine Ny ?_;(try (refine Ny ?_))))))))))))));exact h.1):p:=k ⟨h⟩
theorem FK {p q:Prop} (h:q) (k:Hid q->p:=by intro h;(first|refine aa1 ?_|refine aa7 ?_|refine ai ?_|refine eF rfl rfl ?_|refine aP ?_|refine aN ?_|refine aQ ?_|refine Wc.block ?_|refine Wc.skip ?_|refine dV ?_|refine dP ?_|refine eG ?_|refine gI ?_|refine fJ ?_|refine dJ ?_|refine dQ ?_|refine fK ?_|refine bF rfl ?_|refine dm rfl ?_|refine Wl.sub rfl rfl (by omega) (by omega) ?_);exact h.1):p:=k ⟨h⟩
theorem FM {p q:Prop} (h:q) (k:Hid q->p:=by intro h;refine FK ?_;(try (refine FK ?_;(try (refine FK ?_;(try (refine FK ?_;(try (refine FK ?_;(try (refine FK ?_;(try (refine FK ?_;(try (refine FK ?_))))))))))))));exact h.1):p:=k ⟨h⟩
theorem Uu {p q:Prop} (h:q) (k:Hid q->p:=by intro h;refine FM ?_;(try (refine FM ?_;(try (refine FM ?_;(try (refine FM ?_;(try (refine FM ?_;(try (refine FM ?_;(try (refine FM ?_;(try (refine FM ?_))))))))))))));exact h.1):p:=k ⟨h⟩
theorem FN {p q:Prop} (h:q) (k:Hid q->p:=by intro h;(first|refine aa1 ?_|refine aa7 ?_|refine ai ?_|refine aP ?_|refine aN ?_|refine aQ ?_|refine Wc.block ?_|refine Wc.skip ?_|refine dV ?_|refine eG ?_|refine dJ ?_|refine je rfl ?_|refine dQ ?_|refine bF rfl ?_|refine dm rfl ?_|refine Wl.add rfl rfl (by omega) (by omega) ?_|refine Wl.sub rfl rfl (by omega) (by omega) ?_|refine gK rfl ?_);exact h.1):p:=k ⟨h⟩
theorem FO {p q:Prop} (h:q) (k:Hid q->p:=by intro h;refine FN ?_;(try (refine FN ?_;(try (refine FN ?_;(try (refine FN ?_;(try (refine FN ?_;(try (refine FN ?_;(try (refine FN ?_;(try (refine FN ?_))))))))))))));exact h.1):p:=k ⟨h⟩
theorem Hf {p q:Prop} (h:q) (k:Hid q->p:=by intro h;refine FO ?_;(try (refine FO ?_;(try (refine FO ?_;(try (refine FO ?_;(try (refine FO ?_;(try (refine FO ?_;(try (refine FO ?_;(try (refine FO ?_))))))))))))));exact h.1):p:=k ⟨h⟩
theorem FP {p q:Prop} (h:q) (k:Hid q->p:=by intro h;(first|refine bG rfl rfl ?_|refine aa0 (aa3 (af ?_))|refine aa0 (yO (af ?_))|refine aa0 (dA rfl (af ?_))|refine aa0 (aa6 (af ?_)));exact h.1):p:=k ⟨h⟩
theorem FQ {p q:Prop} (h:q) (k:Hid q->p:=by intro h;refine FP ?_;(try (refine FP ?_;(try (refine FP ?_;(try (refine FP ?_;(try (refine FP ?_;(try (refine FP ?_;(try (refine FP ?_;(try (refine FP ?_))))))))))))));exact h.1):p:=k ⟨h⟩
theorem rX {p q:Prop} (h:q) (k:Hid q->p:=by intro h;refine FQ ?_;(try (refine FQ ?_;(try (refine FQ ?_;(try (refine FQ ?_;(try (refine FQ ?_;(try (refine FQ ?_;(try (refine FQ ?_;(try (refine FQ ?_))))))))))))));exact h.1):p:=k ⟨h⟩
theorem FT {p q:Prop} (h:q) (k:Hid q->p:=by intro h;(first|refine aa1 ?_|refine aa7 ?_|refine ai ?_|refine eF rfl rfl ?_|refine aO rfl rfl ?_|refine dO ?_|refine iI rfl ?_|refine di ?_|refine eu ?_|refine Wd.skip ?_|refine iJ rfl ?_|refine aa5 ?_);exact h.1):p:=k ⟨h⟩
theorem FU {p q:Prop} (h:q) (k:Hid q->p:=by intro h;refine FT ?_;(try (refine FT ?_;(try (refine FT ?_;(try (refine FT ?_;(try (refine FT ?_;(try (refine FT ?_;(try (refine FT ?_;(try (refine FT ?_))))))))))))));exact h.1):p:=k ⟨h⟩
theorem BR {p q:Prop} (h:q) (k:Hid q->p:=by intro h;refine FU ?_;(try (refine FU ?_;(try (refine FU ?_;(try (refine FU ?_;(try (refine FU ?_;(try (refine FU ?_;(try (refine FU ?_;(try (refine FU ?_))))))))))))));exact h.1):p:=k ⟨h⟩
end Go.Proofs.YtfbnfhhmiiahnaaGreatDoor
namespace Go.Proofs.YtfbnfhhmiiahnaaGreatDoor.Wk
open Go Go.RowKit
class Und (P:Program) (t:TypeId) (u:outParam TypeDesc):Prop where
 h:P.underlying t=some u
abbrev Fr:=Nat->Value
def upd (F:Fr) (d:Nat) (v:Value):Fr:=fun k=>match ank k d with|true=>v|false=>F k
def arr (n:Nat) (F:Fr):Array Value:=((ab8 n).map F).toArray
def Hg (l:List Value):Fr:=fun k=>l.getD k undef
def ev (n:Nat) (F:Fr):Operand->Value
 | .tmp t=>match ada t n with|true=>F t|false=>undef
 | .const v=>v
 | .global g=>.pointer (some ⟨g,0,none⟩)
 | .func f=>.func (.func f) #[] #[]
theorem VS (n:Nat) (F:Fr):(arr n F).size=n:=by simp [arr]
theorem uy (n:Nat) (F:Fr) (k:Nat):(arr n F)[k]? =if k<n then some (F k) else none:=by
 simp only [arr,anH,an3];by_cases h:k<n
 ·rw [if_pos h,List.getElem?_range h];rfl
 ·rw [if_neg h,anl (by simp;omega)];rfl
theorem Aw (F:Fr) (d:Nat) (v:Value) (k:Nat):upd F d v k=if k=d then v else F k:=by
 unfold upd;cases h:ank k d
 ·have:=anA h;simp [this]
 ·have:=Nat.eq_of_beq_eq_true h;simp [this]
theorem SH (n:Nat) (F:Fr) (d:Nat) (v:Value):(arr n F).setIfInBounds d v=arr n (upd F d v):=by
 apply an4;intro i;rw [an5,uy,uy,VS,Aw];by_cases h:d=i
 ·subst h;by_cases h2:d<n<;>simp [h2]
 ·rw [if_neg h];split
  ·rw [if_neg (fun e=>h e.symm)]
  ·rfl
def act (n:Nat) (ds:List Deferred) (F:Fr):Act:=⟨arr n F,ds⟩
theorem xU {n:Nat} {ds:List Deferred} {F:Fr} {d:Nat} {v:Value}:(act n ds F).put (some d) v=act n ds (upd F d v):=by
 simp [act,Act.put,SH]
theorem vU {n:Nat} {ds:List Deferred} {F:Fr} {x:Operand}:(act n ds F).eval x=ev n F x:=by
 cases x with
 |tmp t=>
  simp only [act,Act.eval,ev,ab9,uy];by_cases h:t<n
  ·rw [if_pos h,show ada t n=true by rw [ana];exact h];rfl
  ·rw [if_neg h];have:ada t n=false:=by rw [an6];intro e;rw [ana] at e;exact h e
   rw [this];rfl
 |_=>rfl
theorem wY {n:Nat} {ds:List Deferred} {F:Fr}:(act n ds F).eval=ev n F:=funext fun _=>vU
theorem CJ (l:List Value) (n:Nat) (h:l.length<=n):({tmps:=l.toArray++anp (n-l.toArray.size) undef,defers:=[]}:Act)=act n [] (Hg l):=by
 simp only [act,Act.mk.injEq,and_true];apply an4;intro i;rw [uy];simp only [Hg,Array.getElem?_append,anu,anH,anB];by_cases h1:i<l.length
 ·rw [if_pos h1,if_pos (by omega)];simp [an7,anv h1]
 ·rw [if_neg h1];by_cases h2:i<n
  ·rw [if_pos h2,if_pos (by omega)];simp [an7,anl (Nat.not_lt.1 h1)]
  ·rw [if_neg h2,if_neg (by omega)]
abbrev Po:=Exit->Fr->World->Prop
def QA (n:Nat) (ds:List Deferred) (Q:Po):Exit->Act->World->Prop:=fun e a w=> ∃F,a=act n ds F/\Q e F w
def Wc (P:Program) (n:Nat) (ds:List Deferred) (Q:Po) (c:Code) (F:Fr) (w:World):Prop:=c.wp P (QA n ds Q) (act n ds F) w
def Wl (P:Program) (n:Nat) (ds:List Deferred) (Q:Po) (ops:List Oper) (l:List Oper) (F:Fr) (w:World):Prop:=wpList P ops.toArray (QA n ds Q) l (act n ds F) w
def qi (P:Program) (n:Nat) (ds:List Deferred) (b:Code) (Q:Po):Po
 | .normal,F,w=>Wc P n ds Q b F w
 |e,F,w=>Q e F w
def pW (id:Nat) (Q:Po):Po
 | .exit j,F,w=>if j=id then Q .normal F w else Q (.exit j) F w
 |e,F,w=>Q e F w
section
variable {P:Program} {n:Nat} {ds:List Deferred} {Q:Po} {F:Fr} {w:World}
theorem aN {a b:Code} (h:Wc P n ds (qi P n ds b Q) a F w):Wc P n ds Q (.seq a b) F w:=by
 refine wp_seq (wp_mono h ?_);rintro e a' w' ⟨F',rfl,hq⟩;cases e<;>first|exact hq|exact ⟨F',rfl,hq⟩
theorem aQ {id:Nat} {l:List Oper} (h:Wl P n ds Q l l F w):Wc P n ds Q (.region id l.toArray false) F w:=wp_region_lit h
theorem Wc.block {id:Nat} {c:Code} (h:Wc P n ds (pW id Q) c F w):Wc P n ds Q (.block id c) F w:=by
 refine wp_block (wp_mono h ?_);rintro e a' w' ⟨F',rfl,hq⟩;cases e with
 |exit j=>
  simp only [pW] at hq;simp only [Exit.inBlock];split<;>rename_i hj
  ·rw [if_pos hj] at hq;exact ⟨F',rfl,hq⟩
  ·rw [if_neg hj] at hq;exact ⟨F',rfl,hq⟩
 |_=>exact ⟨F',rfl,hq⟩
theorem Wc.skip (h:Q .normal F w):Wc P n ds Q .skip F w:=wp_skip ⟨F,rfl,h⟩
theorem dV {id:Nat} (h:Q (.exit id) F w):Wc P n ds Q (.exit id) F w:=wp_exit ⟨F,rfl,h⟩
theorem dP (h:Q .ret F w):Wc P n ds Q .ret F w:=wp_ret ⟨F,rfl,h⟩
theorem bF {c:Operand} {x y:Code} (hc:ev n F c=.bool true) (h:Wc P n ds Q x F w):Wc P n ds Q (.cond c x y) F w:=wp_cond_true (vU.trans hc) h
theorem dm {c:Operand} {x y:Code} (hc:ev n F c=.bool false) (h:Wc P n ds Q y F w):Wc P n ds Q (.cond c x y) F w:=wp_cond_false (vU.trans hc) h
theorem aP {b:Code} (h:Wc P n ds Q b F w):qi P n ds b Q .normal F w:=h
theorem eG {b:Code} {id:Nat} (h:Q (.exit id) F w):qi P n ds b Q (.exit id) F w:=h
theorem gI {b:Code} (h:Q .ret F w):qi P n ds b Q .ret F w:=h
theorem dL {id:Nat} (h:Q .normal F w):pW id Q .normal F w:=h
theorem fJ {id:Nat} (h:Q .ret F w):pW id Q .ret F w:=h
theorem dJ {id:Nat} (h:Q .normal F w):pW id Q (.exit id) F w:=by simp only [pW,if_pos];exact h
theorem je {id j:Nat} (hj:ank j id=false) (h:Q (.exit j) F w):pW id Q (.exit j) F w:=by
 simp only [pW];rw [if_neg (anA hj)];exact h
def Qsc (Q:Po):Po
 | .goto _,_,_=>False
 |e,F,w=>Q e F w
theorem jC {c:Code} (h:Wc P n ds (Qsc Q) c F w):Wc P n ds Q (.scope c) F w:=by
 refine wp_scope_straight (wp_mono h ?_);rintro e a' w' ⟨F',rfl,hq⟩;cases e<;>first|exact ⟨F',rfl,hq⟩|exact hq.elim
theorem Qsc.ret (h:Q .ret F w):Qsc Q .ret F w:=h
theorem exists_least {p:Nat->Prop} (h: ∃m,p m): ∃m,p m/\ ∀m',p m'->m<=m':=by
 obtain ⟨m,hm⟩:=h;induction m using Nat.strongRecOn with
 |ind m ih=>
  by_cases hlt: ∃m',p m'/\m'<m
  ·obtain ⟨m',hj,hl⟩:=hlt;exact ih m' hl hj
  ·exact ⟨m,hm,fun m' hj=>Nat.not_lt.1 fun hl=>hlt ⟨m',hj,hl⟩⟩
noncomputable def least (p:Nat->Prop):Nat:=Classical.epsilon fun m=>p m/\ ∀m',p m'->m<=m'
theorem zu {p:Nat->Prop} (h: ∃m,p m):p (least p)/\ ∀m',p m'->least p<=m':=Classical.epsilon_spec (exists_least h)
def pq (F:Fr):List (Nat×Value)->Fr
 | []=>F
 |(d,v)::r=>upd (pq F r) d v
def agrees (F:Fr):List (Nat×Value)->Prop
 | []=>True
 |(d,v)::r=>F d=v/\agrees F r
theorem sl {F:Fr} : ∀{l:List (Nat×Value)},l.map (fun p=>F p.1)=l.map (·.2)->agrees F l
 |[],_=>trivial
 |(_,_)::_,h=>⟨(List.cons.inj h).1,sl (List.cons.inj h).2⟩
theorem VT {F:Fr} {d:Nat} {v:Value} (h:F d=v):upd F d v=F:=by
 funext k;rw [Aw];split
 ·rename_i e;rw [e,h]
 ·rfl
theorem oV {F:Fr}: ∀ {l:List (Nat×Value)},agrees F l->pq F l=F
 | [],_=>rfl
 |(d,v)::r,h=>by simp only [pq,oV h.2];exact VT h.1
def nR {σ:Type} (S:σ->List (Nat×Value)) (I:σ->World->Prop) (μ:σ->Nat) (s:σ) (Q:Po):Po
 | .normal,F,w=> ∃s',agrees F (S s')/\I s' w/\μ s'<μ s
 |e,F,w=>Q e F w
theorem aA {σ:Type} (S:σ->List (Nat×Value)) (I:σ->World->Prop) (μ:σ->Nat) (s0:σ) {c:Code}
 (hF:agrees F (S s0)) (h0:I s0 w) (step: ∀s G w,I s w->Wc P n ds (nR S I μ s Q) c (pq G (S s)) w):Wc P n ds Q (.loop c) F w:=by
 let J:Act->World->Nat->Prop:=fun a w m=> ∃s F,a=act n ds F/\agrees F (S s)/\I s w/\μ s=m;refine wp_loop (fun a w=> ∃m,J a w m) (fun a w=>least (J a w)) ⟨_,s0,F,rfl,hF,h0,rfl⟩ ?_;intro a w hJ;obtain ⟨⟨s,F,ha,h1,h2,h3⟩,_⟩:=zu hJ;subst ha;have:=step s F w h2;rw [oV h1] at this;refine wp_mono this ?_;rintro e a' w' ⟨F',rfl,hq⟩;cases e with
 |normal=>obtain ⟨s',h1',h2',h3'⟩:=hq;have hJ':J (act n ds F') w' (μ s'):=⟨s',F',rfl,h1',h2',rfl⟩;refine ⟨⟨_,hJ'⟩,?_⟩;have:=(zu ⟨_,hJ'⟩).2 _ hJ';omega
 |_=>exact ⟨F',rfl,hq⟩
end
abbrev vs (l:List UInt8):Value:=.string ⟨l.toArray⟩
abbrev vi (x:Int):Value:=.int .i64 x
def Ret (φ:Value->World->Prop):Ending->World->Prop:=fun e w=> ∃v,e=.returned v/\φ v w
def wI (F:Fr):Option Nat->Value->Fr
 |some d,v=>upd F d v
 |none,_=>F
theorem Nz {n:Nat} {ds:List Deferred} {F:Fr} {d:Option Nat} {v:Value}:(act n ds F).put d v=act n ds (wI F d v):=by
 cases d
 ·rfl
 ·exact xU
section
variable {P:Program} {n:Nat} {ds:List Deferred} {Q:Po} {F:Fr} {w w':World} {ops rest:List Oper} {d d1 d2:Nat} {ty ty1 ty2:TypeId} {pos pos1 pos2:String} {aft Hl Ho:Array Edge}
theorem ai (h:Q .normal F w):Wl P n ds Q ops [] F w:=⟨F,rfl,h⟩
theorem jD {dst:Option Nat} {op:Op} {v:Value} (hr:(execOp (ev n F) ⟨dst,op,ty,pos,aft,none⟩).run P w=.ok (.value v) w')
 (k:Wl P n ds Q ops rest (wI F dst v) w'):Wl P n ds Q ops (⟨dst,op,ty,pos,aft,none⟩::rest) F w:=by
 refine wpList_plain rfl fun K hK=>?_;unfold Oper.wp;rw [wY,hr,Oper.upon_value];refine hK _ _ ?_;rw [Nz];exact k
theorem Wl.val {op:Op} {v:Value} (hr:(execOp (ev n F) ⟨some d,op,ty,pos,aft,none⟩).run P w=.ok (.value v) w')
 (k:Wl P n ds Q ops rest (upd F d v) w'):Wl P n ds Q ops (⟨some d,op,ty,pos,aft,none⟩::rest) F w:=jD hr k
theorem fO {op:Op} (hr:(execOp (ev n F) ⟨none,op,ty,pos,aft,none⟩).run P w=.ok .skip w')
 (k:Wl P n ds Q ops rest F w'):Wl P n ds Q ops (⟨none,op,ty,pos,aft,none⟩::rest) F w:=by
 refine wpList_plain rfl fun K hK=>?_;unfold Oper.wp;rw [wY,hr,Oper.upon_skip];exact hK _ _ k
def yld (ops:List Oper) (n:Nat) (F:Fr) (j:Nat):Option Bool:=
 match (ops[j]?).bind (·.dst) with
 |some d=>match ada d n with
  |true=>match F d with| .bool b=>some b|_=>none
  |false=>none
 |none=>none
theorem vK {j:Nat}:yielded ops.toArray (arr n F) j=yld ops n F j:=by
 unfold yielded yld;simp only [anH];cases h:(ops[j]?).bind (·.dst) with
 |none=>rfl
 |some d=>
  simp only [Option.bind_some,uy];by_cases hd:d<n
  ·rw [if_pos hd,show ada d n=true by rw [ana];exact hd];cases F d<;>rfl
  ·rw [if_neg hd,show ada d n=false by rw [an6];intro e;rw [ana] at e;exact hd e]
theorem aO {o:Oper} {j:Nat} {b:Bool} (hg:o.guard=some (j,b)) (hy:yld ops n F j=some b)
 (k:Wl P n ds Q ops ({o with guard:=none}::rest) F w):Wl P n ds Q ops (o::rest) F w:=by
 have hw:Region.wanted o (yielded ops.toArray (act n ds F).tmps)=true:=by simp only [Region.wanted,hg,act,vK,hy];simp
 have hw2:Region.wanted {o with guard:=none} (yielded ops.toArray (act n ds F).tmps)=true:=rfl;unfold Wl wpList at k ⊢;rw [if_pos hw];rw [if_pos hw2] at k;exact k
theorem dH {op:Op} {j:Nat} {b c:Bool} (hy:yld ops n F j=some c) (hbc:(c == b)=false)
 (k:Wl P n ds Q ops rest (upd F d undef) w):Wl P n ds Q ops (⟨some d,op,ty,pos,aft,some (j,b)⟩::rest) F w:=by
 have hw:Region.wanted ⟨some d,op,ty,pos,aft,some (j,b)⟩ (yielded ops.toArray (act n ds F).tmps)=false:=by simp only [Region.wanted,act,vK,hy];simpa using hbc
 unfold Wl wpList;rw [if_neg (by rw [hw];simp),xU];exact k
theorem iL {x:Operand} (k:Wl P n ds Q ops rest (upd F d (ev n F x)) w):Wl P n ds Q ops (⟨some d,.move x,ty,pos,aft,none⟩::rest) F w:=
 Wl.val (by simp [execOp]) k
theorem kH {x:Operand} (k:Wl P n ds Q ops rest (upd F d (ev n F x)) w):Wl P n ds Q ops (⟨some d,.assign x,ty,pos,aft,none⟩::rest) F w:=
 Wl.val (by simp [execOp]) k
theorem eF {x:Operand} {i:Nat} {l:List Value} {v:Value} (h:ev n F x=.tuple l.toArray) (hi:l[i]? =some v)
 (k:Wl P n ds Q ops rest (upd F d v) w):Wl P n ds Q ops (⟨some d,.extract x i,ty,pos,aft,none⟩::rest) F w:=
 Wl.val (by simp [execOp,h,Instr.extract,hi]) k
theorem Wl.VU {c a b:Operand} (h:ev n F c=.bool true) (k:Wl P n ds Q ops rest (upd F d (ev n F a)) w):Wl P n ds Q ops (⟨some d,.pick c a b,ty,pos,aft,none⟩::rest) F w:=
 Wl.val (by simp [execOp,h,asBool]) k
theorem Wl.VW {c a b:Operand} (h:ev n F c=.bool false) (k:Wl P n ds Q ops rest (upd F d (ev n F b)) w):Wl P n ds Q ops (⟨some d,.pick c a b,ty,pos,aft,none⟩::rest) F w:=
 Wl.val (by simp [execOp,h,asBool]) k
theorem Wl.VX {x:Operand} {v:Value} (h:ev n F x=v) (k:Wl P n ds Q ops rest (upd F d v) w):Wl P n ds Q ops (⟨some d,.move x,ty,pos,aft,none⟩::rest) F w:=
 iL (h▸k)
theorem aa1 {x:Operand} {v:Value} (k:Wl P n ds Q ops rest (upd F d v) w) (h:ev n F x=v:=by conv=>{lhs;whnf}):Wl P n ds Q ops (⟨some d,.move x,ty,pos,aft,none⟩::rest) F w:=Wl.VX h k
theorem kJ {x:Operand} {v:Value} (h:ev n F x=v) (k:Wl P n ds Q ops rest (upd F d v) w):Wl P n ds Q ops (⟨some d,.assign x,ty,pos,aft,none⟩::rest) F w:=
 kH (h▸k)
theorem aa7 {x:Operand} {v:Value} (k:Wl P n ds Q ops rest (upd F d v) w) (h:ev n F x=v:=by conv=>{lhs;whnf}):Wl P n ds Q ops (⟨some d,.assign x,ty,pos,aft,none⟩::rest) F w:=kJ h k
theorem dK {c a b:Operand} {v:Value} (h:ev n F c=.bool true) (h':ev n F a=v) (k:Wl P n ds Q ops rest (upd F d v) w):Wl P n ds Q ops (⟨some d,.pick c a b,ty,pos,aft,none⟩::rest) F w:=
 Wl.VU h (h'▸k)
theorem kK {c a b:Operand} {v:Value} (h:ev n F c=.bool false) (h':ev n F b=v) (k:Wl P n ds Q ops rest (upd F d v) w):Wl P n ds Q ops (⟨some d,.pick c a b,ty,pos,aft,none⟩::rest) F w:=
 Wl.VW h (h'▸k)
theorem xO {c a b:Operand} {v:Value} (k:Wl P n ds Q ops rest (upd F d v) w) (h:ev n F c=.bool false:=by exact rfl) (h':ev n F b=v:=by conv=>{lhs;whnf}):Wl P n ds Q ops (⟨some d,.pick c a b,ty,pos,aft,none⟩::rest) F w:=kK h h' k
theorem Wc.frame {c:Code} (S:List (Nat×Value)) (h:agrees F S) (k: ∀G,Wc P n ds Q c (pq G S) w):Wc P n ds Q c F w:=by
 have:=k F;rwa [oV h] at this
theorem dw {x:Operand} {t:TypeId} {b:Bool} (h:ev n F x=.bool b) (k:Wl P n ds Q ops rest (upd F d (.bool !b)) w):Wl P n ds Q ops (⟨some d,.unOp .not t x,ty,pos,aft,none⟩::rest) F w:=
 Wl.val (by simp [execOp,h,Op.unary]) k
theorem pM {op:BinOp} {t:TypeId} {x y:Operand} {k k':IntKind} {a b:Int}:(eqGuard op t x y (.int k a) (.int k' b)).run P w=.ok () w:=by
 unfold eqGuard;split<;>simp
theorem qp {op:BinOp} {t:TypeId} {x y:Operand} {a b:ByteArray}:(eqGuard op t x y (.string a) (.string b)).run P w=.ok () w:=by
 unfold eqGuard;split<;>simp
theorem EL {op:BinOp} {t:TypeId} {x y:Operand} {a b:Bool}:(eqGuard op t x y (.bool a) (.bool b)).run P w=.ok () w:=by
 unfold eqGuard;split<;>simp
section cmp
variable {x y:Operand} {t t':TypeId} {a b:Int} {k:IntKind}
theorem dW {op:BinOp} {r:Bool} (hr:Op.intCmp op a b=pure (.bool r)) (hop:op≠ .add/\op≠ .sub/\op≠ .mul/\op≠ .quo/\op≠ .rem/\op≠ .and/\op≠ .or/\op≠ .xor/\op≠ .andNot/\op≠ .shl/\op≠ .shr) (hx:ev n F x=.int k a) (hy:ev n F y=.int k b)
 (c:Wl P n ds Q ops rest (upd F d (.bool r)) w):Wl P n ds Q ops (⟨some d,.binOp op t x y t',ty,pos,aft,none⟩::rest) F w:=by
 refine Wl.val ?_ c;simp only [execOp,hx,hy,Sem.run_bind,pM,Result.andThen_ok];have:binOp op t (.int k a) (.int k b)=Op.intCmp op a b:=by cases op<;>simp_all [binOp]
 rw [this,hr];rfl
theorem Wl.lss (hx:ev n F x=.int k a) (hy:ev n F y=.int k b) (ht:a<b->Wl P n ds Q ops rest (upd F d (.bool true)) w) (hf:b<=a->Wl P n ds Q ops rest (upd F d (.bool false)) w):
 Wl P n ds Q ops (⟨some d,.binOp .lss t x y t',ty,pos,aft,none⟩::rest) F w:=by
 by_cases h:a<b
 ·exact dW (r:=true) (by rw [show Op.intCmp .lss a b=pure (.bool (decide (a<b))) from rfl,decide_eq_true h]) (by simp) hx hy (ht h)
 ·exact dW (r:=false) (by rw [show Op.intCmp .lss a b=pure (.bool (decide (a<b))) from rfl,decide_eq_false h]) (by simp) hx hy (hf (Int.not_lt.1 h))
theorem aa2 (ht:a<b->Wl P n ds Q ops rest (upd F d (.bool true)) w) (hf:b<=a->Wl P n ds Q ops rest (upd F d (.bool false)) w) (hx:ev n F x=.int k a:=by exact rfl) (hy:ev n F y=.int k b:=by exact rfl):Wl P n ds Q ops (⟨some d,.binOp .lss t x y t',ty,pos,aft,none⟩::rest) F w:=Wl.lss hx hy ht hf
theorem dR (hx:ev n F x=.int k a) (hy:ev n F y=.int k b) (ht:a<=b->Wl P n ds Q ops rest (upd F d (.bool true)) w) (hf:b<a->Wl P n ds Q ops rest (upd F d (.bool false)) w):
 Wl P n ds Q ops (⟨some d,.binOp .leq t x y t',ty,pos,aft,none⟩::rest) F w:=by
 by_cases h:a<=b
 ·exact dW (r:=true) (by rw [show Op.intCmp .leq a b=pure (.bool (decide (a<=b))) from rfl,decide_eq_true h]) (by simp) hx hy (ht h)
 ·exact dW (r:=false) (by rw [show Op.intCmp .leq a b=pure (.bool (decide (a<=b))) from rfl,decide_eq_false h]) (by simp) hx hy (hf (Int.not_le.1 h))
theorem aT (hx:ev n F x=.int k a) (hy:ev n F y=.int k b) (ht:b<a->Wl P n ds Q ops rest (upd F d (.bool true)) w) (hf:a<=b->Wl P n ds Q ops rest (upd F d (.bool false)) w):
 Wl P n ds Q ops (⟨some d,.binOp .gtr t x y t',ty,pos,aft,none⟩::rest) F w:=by
 by_cases h:b<a
 ·exact dW (r:=true) (by rw [show Op.intCmp .gtr a b=pure (.bool (decide (a>b))) from rfl,decide_eq_true h]) (by simp) hx hy (ht h)
 ·exact dW (r:=false) (by rw [show Op.intCmp .gtr a b=pure (.bool (decide (a>b))) from rfl,decide_eq_false h]) (by simp) hx hy (hf (Int.not_lt.1 h))
theorem aU (hx:ev n F x=.int k a) (hy:ev n F y=.int k b) (ht:b<=a->Wl P n ds Q ops rest (upd F d (.bool true)) w) (hf:a<b->Wl P n ds Q ops rest (upd F d (.bool false)) w):
 Wl P n ds Q ops (⟨some d,.binOp .geq t x y t',ty,pos,aft,none⟩::rest) F w:=by
 by_cases h:b<=a
 ·exact dW (r:=true) (by rw [show Op.intCmp .geq a b=pure (.bool (decide (a≥b))) from rfl,decide_eq_true h]) (by simp) hx hy (ht h)
 ·exact dW (r:=false) (by rw [show Op.intCmp .geq a b=pure (.bool (decide (a≥b))) from rfl,decide_eq_false h]) (by simp) hx hy (hf (Int.not_le.1 h))
theorem bJ (hx:ev n F x=.int k a) (hy:ev n F y=.int k b) (ht:a=b->Wl P n ds Q ops rest (upd F d (.bool true)) w) (hf:a≠b->Wl P n ds Q ops rest (upd F d (.bool false)) w):
 Wl P n ds Q ops (⟨some d,.binOp .eql t x y t',ty,pos,aft,none⟩::rest) F w:=by
 by_cases h:a=b
 ·exact dW (r:=true) (by rw [show Op.intCmp .eql a b=pure (.bool (a == b)) from rfl,show (a == b)=true from beq_iff_eq.2 h]) (by simp) hx hy (ht h)
 ·exact dW (r:=false) (by rw [show Op.intCmp .eql a b=pure (.bool (a == b)) from rfl,show (a == b)=false from beq_eq_false_iff_ne.2 h]) (by simp) hx hy (hf h)
theorem Wl.neq (hx:ev n F x=.int k a) (hy:ev n F y=.int k b) (ht:a≠b->Wl P n ds Q ops rest (upd F d (.bool true)) w) (hf:a=b->Wl P n ds Q ops rest (upd F d (.bool false)) w):
 Wl P n ds Q ops (⟨some d,.binOp .neq t x y t',ty,pos,aft,none⟩::rest) F w:=by
 by_cases h:a=b
 ·exact dW (r:=false) (by rw [show Op.intCmp .neq a b=pure (.bool (a != b)) from rfl,show (a != b)=false from by simpa using h]) (by simp) hx hy (hf h)
 ·exact dW (r:=true) (by rw [show Op.intCmp .neq a b=pure (.bool (a != b)) from rfl,show (a != b)=true from by simpa using h]) (by simp) hx hy (ht h)
theorem aa4 (ht:a≠b->Wl P n ds Q ops rest (upd F d (.bool true)) w) (hf:a=b->Wl P n ds Q ops rest (upd F d (.bool false)) w) (hx:ev n F x=.int k a:=by exact rfl) (hy:ev n F y=.int k b:=by exact rfl):Wl P n ds Q ops (⟨some d,.binOp .neq t x y t',ty,pos,aft,none⟩::rest) F w:=Wl.neq hx hy ht hf
end cmp
section str
variable {x y:Operand} {t t':TypeId} {a b:List UInt8}
theorem eU (hx:ev n F x=vs a) (hy:ev n F y=vs b) (ht:a=b->Wl P n ds Q ops rest (upd F d (.bool true)) w) (hf:a≠b->Wl P n ds Q ops rest (upd F d (.bool false)) w):
 Wl P n ds Q ops (⟨some d,.binOp .eql t x y t',ty,pos,aft,none⟩::rest) F w:=by
 by_cases h:a=b
 ·exact Wl.val (by simp only [execOp,hx,hy,Sem.run_bind,qp,Result.andThen_ok,binOp_string_eql,ByteArray.toList_mk,Sem.run_pure,beq_iff_eq.2 h]) (ht h)
 ·exact Wl.val (by simp only [execOp,hx,hy,Sem.run_bind,qp,Result.andThen_ok,binOp_string_eql,ByteArray.toList_mk,Sem.run_pure,beq_eq_false_iff_ne.2 h]) (hf h)
theorem iy (hx:ev n F x=vs a) (hy:ev n F y=vs b) (ht:a≠b->Wl P n ds Q ops rest (upd F d (.bool true)) w) (hf:a=b->Wl P n ds Q ops rest (upd F d (.bool false)) w):
 Wl P n ds Q ops (⟨some d,.binOp .neq t x y t',ty,pos,aft,none⟩::rest) F w:=by
 by_cases h:a=b
 ·exact Wl.val (by simp only [execOp,hx,hy,Sem.run_bind,qp,Result.andThen_ok,binOp_string_neq,ByteArray.toList_mk,Sem.run_pure,beq_iff_eq.2 h,Bool.not_true]) (hf h)
 ·exact Wl.val (by simp only [execOp,hx,hy,Sem.run_bind,qp,Result.andThen_ok,binOp_string_neq,ByteArray.toList_mk,Sem.run_pure,beq_eq_false_iff_ne.2 h,Bool.not_false]) (ht h)
theorem jE (hx:ev n F x=vs a) (hy:ev n F y=vs b) (hb:a.length+b.length<=9223372036854775807) (c:Wl P n ds Q ops rest (upd F d (vs (a++b))) w):
 Wl P n ds Q ops (⟨some d,.binOp .add t x y t',ty,pos,aft,none⟩::rest) F w:=by
 refine Wl.val ?_ c;have h1: ¬(((a.length+b.length:Nat):Int)>IntKind.i64.max):=by simp [IntKind.max,IntKind.signed,IntKind.bits];omega
 have h2:(⟨a.toArray⟩:ByteArray)++⟨b.toArray⟩=⟨(a++b).toArray⟩:=by apply ByteArray.ext;simp [ByteArray.data_append]
 simp only [execOp,hx,hy,Sem.run_bind,qp,Result.andThen_ok,binOp_string_add,Op.stringOp,ByteArray.size,anu];rw [if_neg h1,h2];rfl
end str
section arith
variable {x y:Operand} {t t':TypeId} {a b:Int} {k:IntKind}
theorem yP {a:Int} (h0: -9223372036854775808<=a) (h1:a<=9223372036854775807):IntKind.i64.wrap a=a:=by rw [IntKind.wrap_i64];omega
theorem Wl.add (hx:ev n F x=.int .i64 a) (hy:ev n F y=.int .i64 b) (h0: -9223372036854775808<=a+b) (h1:a+b<=9223372036854775807)
 (c:Wl P n ds Q ops rest (upd F d (.int .i64 (a+b))) w):Wl P n ds Q ops (⟨some d,.binOp .add t x y t',ty,pos,aft,none⟩::rest) F w:=
 Wl.val (by simp [execOp,hx,hy,pM,binOp,Op.intArith,yP h0 h1]) c
theorem Wl.sub (hx:ev n F x=.int .i64 a) (hy:ev n F y=.int .i64 b) (h0: -9223372036854775808<=a-b) (h1:a-b<=9223372036854775807)
 (c:Wl P n ds Q ops rest (upd F d (.int .i64 (a-b))) w):Wl P n ds Q ops (⟨some d,.binOp .sub t x y t',ty,pos,aft,none⟩::rest) F w:=
 Wl.val (by simp [execOp,hx,hy,pM,binOp,Op.intArith,yP h0 h1]) c
theorem jd (hx:ev n F x=.int .i64 a) (hy:ev n F y=.int .i64 b) (h0: -9223372036854775808<=a*b) (h1:a*b<=9223372036854775807)
 (c:Wl P n ds Q ops rest (upd F d (.int .i64 (a*b))) w):Wl P n ds Q ops (⟨some d,.binOp .mul t x y t',ty,pos,aft,none⟩::rest) F w:=
 Wl.val (by simp [execOp,hx,hy,pM,binOp,Op.intArith,yP h0 h1]) c
theorem jf (hx:ev n F x=.int k a) (hy:ev n F y=.int k b)
 (c:Wl P n ds Q ops rest (upd F d (.int k (k.wrap (a+b)))) w):Wl P n ds Q ops (⟨some d,.binOp .add t x y t',ty,pos,aft,none⟩::rest) F w:=
 Wl.val (by simp [execOp,hx,hy,pM,binOp,Op.intArith]) c
theorem fP (hx:ev n F x=.int k a) (hy:ev n F y=.int k b)
 (c:Wl P n ds Q ops rest (upd F d (.int k (k.wrap (a-b)))) w):Wl P n ds Q ops (⟨some d,.binOp .sub t x y t',ty,pos,aft,none⟩::rest) F w:=
 Wl.val (by simp [execOp,hx,hy,pM,binOp,Op.intArith]) c
theorem Wl.afG (hx:ev n F x=.int k a) (hy:ev n F y=.int k b) (h0:b≠0)
 (c:Wl P n ds Q ops rest (upd F d (.int k (k.wrap (a.tdiv b)))) w):Wl P n ds Q ops (⟨some d,.binOp .quo t x y t',ty,pos,aft,none⟩::rest) F w:=
 Wl.val (by simp [execOp,hx,hy,pM,binOp,Op.intDiv,h0]) c
theorem Wl.afH (hx:ev n F x=.int k a) (hy:ev n F y=.int k b) (h0:b≠0)
 (c:Wl P n ds Q ops rest (upd F d (.int k (a.tmod b))) w):Wl P n ds Q ops (⟨some d,.binOp .rem t x y t',ty,pos,aft,none⟩::rest) F w:=
 Wl.val (by simp [execOp,hx,hy,pM,binOp,Op.intDiv,h0]) c
theorem iM {k':IntKind} (hx:ev n F x=.int k a) (hy:ev n F y=.int k' b) (h0:0<=b)
 (c:Wl P n ds Q ops rest (upd F d (.int k (a.fdiv (2^(min b.toNat k.bits))))) w):Wl P n ds Q ops (⟨some d,.binOp .shr t x y t',ty,pos,aft,none⟩::rest) F w:=
 Wl.val (by simp [execOp,hx,hy,pM,binOp,Op.shift,Int.not_lt.2 h0]) c
theorem jF {k':IntKind} (hx:ev n F x=.int k a) (hy:ev n F y=.int k' b) (h0:0<=b)
 (c:Wl P n ds Q ops rest (upd F d (.int k (k.wrap (a*2^(min b.toNat k.bits))))) w):Wl P n ds Q ops (⟨some d,.binOp .shl t x y t',ty,pos,aft,none⟩::rest) F w:=
 Wl.val (by simp [execOp,hx,hy,pM,binOp,Op.shift,Int.not_lt.2 h0]) c
theorem gK {k':IntKind} {u:TypeDesc} [hu:Und P t' (.int k')] [ht:Und P t u] (hx:ev n F x=.int k a)
 (c:Wl P n ds Q ops rest (upd F d (.int k' (k'.wrap a))) w):Wl P n ds Q ops (⟨some d,.convert t t' x,ty,pos,aft,none⟩::rest) F w:=by
 refine Wl.val ?_ c;simp only [execOp,hx,Sem.run_bind,convert,run_underlying ht.h,run_underlying hu.h,Result.andThen_ok,Conv.intToInt,Sem.run_pure]
end arith
class nN (P:Program) (f:FuncId):Prop where
 ex: ∃fn,P.funcs[f]? =some fn/\(fn.name == "runtime.NumGoroutine")=false/\fn.body.isNone=false
theorem qF {f:FuncId} (hc:nN P f) (args:Array Value):(callFunc f args).run P w=.ok (.enter f args) w:=by
 obtain ⟨fn,h1,h2,h3⟩:=hc.ex;have h2': ¬fn.name= "runtime.NumGoroutine" :=by simpa using h2
 have h3': ¬fn.body=none:=by intro e;rw [e] at h3;simp at h3
 simp [callFunc,h1,h2',h3']
theorem bP {dst:Option Nat} {g:Operand} {args:List Operand} {ts:Array TypeId} {f:FuncId} {first cap:Array Value} {vs:List Value} {φ:Value->World->Prop}
 [hc:nN P f] (hg:ev n F g=.func (.func f) first cap)
 (h:Calls P f vs.toArray w (Ret φ)) (ha:first.toList++(args.map (ev n F)++cap.toList)=vs) (k: ∀v w',φ v w'->Wl P n ds Q ops rest (wI F dst v) w'):
 Wl P n ds Q ops (⟨dst,.call {callee:=.value g,args:=args.toArray,argTypes:=ts},ty,pos,aft,none⟩::rest) F w:=by
 refine wpList_plain rfl fun K hK=>?_;unfold Oper.wp;have e:(execOp (ev n F) ⟨dst,.call {callee:=.value g,args:=args.toArray,argTypes:=ts},ty,pos,aft,none⟩).run P w=.ok (.enter f vs.toArray) w:=by subst ha;simp only [execOp,resolve,hg,Deferred.ofValue,Sem.run_bind,Sem.run_pure,Result.andThen_ok,invoke,qF hc];congr 3;apply anI;simp
 rw [wY,e,Oper.upon_enter];refine h.mono ?_;rintro _ w'' ⟨v,rfl,hv⟩;dsimp only;refine hK _ _ ?_;rw [Nz];exact k v w'' hv
theorem aj {args:List Operand} {ts:Array TypeId} {f:FuncId} {vs:List Value} {φ:Value->World->Prop}
 [hc:nN P f] (h:Calls P f vs.toArray w (Ret φ)) (ha:args.map (ev n F)=vs) (k: ∀v w',φ v w'->Wl P n ds Q ops rest (upd F d v) w'):
 Wl P n ds Q ops (⟨some d,.call {callee:=.value (.func f),args:=args.toArray,argTypes:=ts},ty,pos,aft,none⟩::rest) F w:=
 bP (dst:=some d) (first:= #[]) (cap:= #[]) rfl h (by simpa using ha) k
def Qfn (P:Program) (n:Nat) (fn:Func) (R:Ending->World->Prop):Po
 | .normal,F,w| .ret,F,w=> ∃v,(results fn (arr n F)).run P w=.ok v w/\R (.returned v) w
 | .panic chain,_,w=>R (.panicked chain) w
 | .outgrown,_,w=>R .outgrown w
 |_,_,_=>False
theorem nM {f:FuncId} {fn:Func} {c:Code} {l:List Value} {R:Ending->World->Prop} (hf:P.funcs[f]? =some fn) (hb:fn.body=some c) (hn:fn.ntmps=n)
 (hl:Nat.ble l.length n=true) (h:Wc P n [] (Qfn P n fn R) c (Hg l) w):Calls P f l.toArray w R:=by
 refine calls_of_wp hf hb ?_;rw [hn,CJ l n (Nat.le_of_ble_eq_true hl)];refine wp_mono h ?_;rintro e a w ⟨F,rfl,hq⟩;cases e<;>first|exact ⟨rfl,hq⟩|exact hq
theorem ak {fn:Func} {R:Ending->World->Prop} {t:Nat} (h:fn.results= #[.tmp t]) (ht:ada t n=true) (k:R (.returned (F t)) w):Qfn P n fn R .ret F w:=by
 refine ⟨F t,?_,k⟩;rw [results_tmp h,ab9,uy,if_pos (by rwa [ana] at ht)];rfl
theorem aB {fn:Func} {R:Ending->World->Prop} {t u:Nat} (h:fn.results= #[.tmp t,.tmp u]) (ht:ada t n=true) (hu:ada u n=true) (k:R (.returned (.tuple #[F t,F u])) w):Qfn P n fn R .ret F w:=by
 refine ⟨.tuple #[F t,F u],?_,k⟩;rw [results_tmp2 h,ab9,uy,if_pos (by rwa [ana] at ht),ab9,uy,if_pos (by rwa [ana] at hu)];rfl
theorem bZ {fn:Func} {R:Ending->World->Prop} {t u s:Nat} (h:fn.results= #[.tmp t,.tmp u,.tmp s]) (ht:ada t n=true) (hu:ada u n=true) (hs:ada s n=true) (k:R (.returned (.tuple #[F t,F u,F s])) w):Qfn P n fn R .ret F w:=by
 refine ⟨.tuple #[F t,F u,F s],?_,k⟩;simp only [results,h];simp [uy,ab9,(by rwa [ana] at ht:t<n),(by rwa [ana] at hu:u<n),(by rwa [ana] at hs:s<n)]
theorem ax {σ:Type} {S:σ->List (Nat×Value)} {I:σ->World->Prop} {μ:σ->Nat} {s:σ} (s':σ) (h1:agrees F (S s')) (h2:I s' w) (h3:μ s'<μ s):nR S I μ s Q .normal F w:=⟨s',h1,h2,h3⟩
theorem dQ {σ:Type} {S:σ->List (Nat×Value)} {I:σ->World->Prop} {μ:σ->Nat} {s:σ} {id:Nat} (h:Q (.exit id) F w):nR S I μ s Q (.exit id) F w:=h
theorem fK {σ:Type} {S:σ->List (Nat×Value)} {I:σ->World->Prop} {μ:σ->Nat} {s:σ} (h:Q .ret F w):nR S I μ s Q .ret F w:=h
theorem eX {fn:Func} {R:Ending->World->Prop} (h:fn.results= #[]) (k:R (.returned (.tuple #[])) w):Qfn P n fn R .ret F w:=
 ⟨_,results_none h _ _ _,k⟩
theorem cO {fn:Func} {R:Ending->World->Prop} (h:fn.results= #[]) (k:R (.returned (.tuple #[])) w):Qfn P n fn R .normal F w:=
 ⟨_,results_none h _ _ _,k⟩
end
attribute [irreducible] Wl Wc qi pW Qfn nR Qsc
end Go.Proofs.YtfbnfhhmiiahnaaGreatDoor.Wk
namespace Go.Proofs.YtfbnfhhmiiahnaaGreatDoor.Sy
section
variable {α:Type}
abbrev Srt (lt:α->α->Prop) (l:List α):Prop:=l.Pairwise lt
structure Rot (G:List α) (m i j:Nat) (l:List α):Prop where
 ex: ∃X U V Z:List α,l=X++U++V++Z/\X.length+i=m/\U.length=i/\V.length=j/\X++V++U++Z=G
structure Swp (l:List α) (a b n:Nat) (l':List α):Prop where
 ex: ∃X A Y B Z:List α,l=X++A++Y++B++Z/\X.length=a/\A.length=n/\a+n+Y.length=b/\B.length=n/\l'=X++B++Y++A++Z
theorem Swp.len {l l':List α} {a b n:Nat} (h:Swp l a b n l'):l'.length=l.length:=by
 obtain ⟨X,A,Y,B,Z,rfl,h1,h2,h3,h4,rfl⟩:=h.ex;simp;omega
theorem vV (l:List α) {n:Nat} (h:n<=l.length): ∃A B:List α,l=A++B/\A.length=n:=⟨l.take n,l.drop n,by simp,by simp;omega⟩
theorem Swp.zero (l:List α) {a b:Nat} (h1:a<=b) (h2:b<=l.length):Swp l a b 0 l:=by
 obtain ⟨X,l1,rfl,hX⟩:=vV l (n:=a) (by omega);obtain ⟨Y,Z,rfl,hY⟩:=vV l1 (n:=b-a) (by rw [am7] at h2;omega);exact ⟨X,[],Y,[],Z,by simp,hX,rfl,by omega,rfl,by simp⟩
theorem Swp.step {l l':List α} {a b i:Nat} (h:Swp l a b i l') (h1:a+i<b) (h2:b+i<l.length): ∃p q,l'[a+i]? =some p/\l'[b+i]? =some q/\Swp l a b (i+1) ((l'.set (a+i) q).set (b+i) p):=by
 obtain ⟨X,A,Y,B,Z,rfl,g1,g2,g3,g4,rfl⟩:=h.ex;cases Y with
 |nil=>simp at g3;omega
 |cons p Y=>
  cases Z with
  |nil=>simp only [am7,anJ,an8] at h2 g3;omega
  |cons q Z=>
   simp only [anJ] at g3;refine ⟨p,q,?_,?_,X,A++ [p],Y,B++ [q],Z,by simp,g1,by simp;omega,by omega,by simp;omega,?_⟩
   ·have:X++B++p::Y++A++q::Z=(X++B)++(p::(Y++A++q::Z)):=by simp
    rw [this,anb (by simp;omega)];rw [show a+i-(X++B).length=0 by simp;omega];rfl
   ·have:X++B++p::Y++A++q::Z=(X++B++p::Y++A)++(q::Z):=by simp
    rw [this,anb (by simp;omega)];rw [show b+i-(X++B++p::Y++A).length=0 by simp;omega];rfl
   ·have e1:X++B++p::Y++A++q::Z=(X++B)++(p::(Y++A++q::Z)):=by simp
    rw [e1,anw _ _ (by simp;omega),show a+i-(X++B).length=0 by simp;omega,an9];have e2:(X++B)++(q::(Y++A++q::Z))=(X++B++q::Y++A)++(q::Z):=by simp
    rw [e2,anw _ _ (by simp;omega),show b+i-(X++B++q::Y++A).length=0 by simp;omega,an9];simp
theorem uS {A B C D:List α} (h:A++B=C++D) (hl:A.length=C.length):A=C/\B=D:=List.append_inj h hl
theorem Rot.big {G:List α} {m i j:Nat} {l l':List α} (h:Rot G m i j l) (hij:j<i) (s:Swp l (m-i) m j l'):Rot G m (i-j) j l':=by
 obtain ⟨X,U,V,Z,rfl,h1,h2,h3,h4⟩:=h.ex;obtain ⟨X',A,Y,B,Z',e,g1,g2,g3,g4,rfl⟩:=s.ex;obtain ⟨U1,U2,rfl,hU⟩:=vV U (n:=j) (by omega);simp only [am7] at h2;have e1:X++(U1++(U2++(V++Z)))=X'++(A++(Y++(B++Z'))):=by simpa using e
 obtain ⟨rfl,q1⟩:=uS e1 (by omega);obtain ⟨rfl,q2⟩:=uS q1 (by omega);obtain ⟨rfl,q3⟩:=uS q2 (by omega);obtain ⟨rfl,rfl⟩:=uS q3 (by omega);exact ⟨X++V,U2,U1,Z,by simp,by simp;omega,by omega,hU,by rw [<-h4];simp⟩
theorem Rot.small {G:List α} {m i j:Nat} {l l':List α} (h:Rot G m i j l) (hij:i<j) (s:Swp l (m-i) (m+j-i) i l'):Rot G m i (j-i) l':=by
 obtain ⟨X,U,V,Z,rfl,h1,h2,h3,h4⟩:=h.ex;obtain ⟨X',A,Y,B,Z',e,g1,g2,g3,g4,rfl⟩:=s.ex;obtain ⟨V1,V2,rfl,hV⟩:=vV V (n:=j-i) (by omega);simp only [am7] at h3;have e1:X++(U++(V1++(V2++Z)))=X'++(A++(Y++(B++Z'))):=by simpa using e
 obtain ⟨rfl,q1⟩:=uS e1 (by omega);obtain ⟨rfl,q2⟩:=uS q1 (by omega);obtain ⟨rfl,q3⟩:=uS q2 (by omega);obtain ⟨rfl,rfl⟩:=uS q3 (by omega);exact ⟨X,V2,V1,U++Z,by simp,h1,by omega,hV,by rw [<-h4];simp⟩
theorem Rot.last {G:List α} {m i:Nat} {l l':List α} (h:Rot G m i i l) (s:Swp l (m-i) m i l'):l'=G:=by
 obtain ⟨X,U,V,Z,rfl,h1,h2,h3,h4⟩:=h.ex;obtain ⟨X',A,Y,B,Z',e,g1,g2,g3,g4,rfl⟩:=s.ex;have e1:X++(U++(V++Z))=X'++(A++(Y++(B++Z'))):=by simpa using e
 obtain ⟨rfl,q1⟩:=uS e1 (by omega);obtain ⟨rfl,q2⟩:=uS q1 (by omega);obtain rfl:Y=[]:=anf (by omega);obtain ⟨rfl,rfl⟩:=uS (by simpa using q2) (by omega);rw [<-h4];simp
structure Pre (lt:α->α->Prop) (cp:α->α->Bool) (D:List α) (a m b:Nat) (X L R Z:List α):Prop where
 e:D=X++L++R++Z
 x:X.length=a
 l:a+L.length=m
 r:m+R.length=b
 sl:Srt lt L
 sr:Srt lt R
 cr: ∀y∈R, ∀x∈L,(cp y x=true->lt y x)/\(cp y x=false->lt x y)
def Post (lt:α->α->Prop) (X L R Z D':List α):Prop:= ∃E,D'=X++E++Z/\E.Perm (L++R)/\Srt lt E
variable {lt:α->α->Prop} {cp:α->α->Bool}
theorem Pre.P8 {D:List α} {a m b:Nat} {X L R Z:List α} (h:Pre lt cp D a m b X L R Z) {c:Nat} (h1:a<=c) (h2:c<m):D[c]? =L[c-a]? :=by
 obtain ⟨rfl,h3,h4,h5,_,_⟩:=h;rw [adK,adK,anb (by omega),anm (by omega),h3]
theorem Pre.P9 {D:List α} {a m b:Nat} {X L R Z:List α} (h:Pre lt cp D a m b X L R Z) {c:Nat} (h1:m<=c) (h2:c<b):D[c]? =R[c-m]? :=by
 obtain ⟨rfl,h3,h4,h5,_,_⟩:=h;rw [adK,anb (by simp;omega),anm (by simp;omega)];congr 1;simp;omega
theorem cross {A B:List α} (tr: ∀x y z,lt x y->lt y z->lt x z) (ha:Srt lt A) (hb:Srt lt B) (h: ∀x y,A.getLast?=some x->B.head?=some y->lt x y): ∀x∈A, ∀y∈B,lt x y:=by
 intro x hx y hy;obtain ⟨p,t,rfl⟩: ∃p t,A=p++ [t]:=by
  rcases List.eq_nil_or_concat A with rfl|⟨p,t,e⟩
  ·simp at hx
  ·exact ⟨p,t,by simpa using e⟩
 cases B with
 |nil=>simp at hy
 |cons b r=>
  have h1:=h t b (by simp) rfl;have h2:lt x b:=by
   rcases List.mem_append.1 hx with hx|hx
   ·have:=(List.pairwise_append.1 ha).2.2 x hx t (by simp);exact tr _ _ _ this h1
   ·rw [List.mem_singleton.1 hx];exact h1
  rcases List.mem_cons.1 hy with rfl|hy
  ·exact h2
  ·exact tr _ _ _ h2 ((List.pairwise_cons.1 hb).1 y hy)
theorem DN {A:List α} {x:α} (h:A.getLast?=some x):A[A.length-1]? =some x:=by rw [<-List.getLast?_eq_getElem?];exact h
theorem DR {A:List α} {x:α} (h:A.head?=some x):A[0]? =some x:=by rw [<-List.head?_eq_getElem?];exact h
structure Cut (lt:α->α->Prop) (L R L1 L2 R1 R2:List α):Prop where
 l:L=L1++L2
 r:R=R1++R2
 c: ∀x∈L1++R1, ∀y∈L2++R2,lt x y
theorem aax (tr: ∀x y z,lt x y->lt y z->lt x z) {L R L1 L2 R1 R2:List α} (hl:L=L1++L2) (hr:R=R1++R2) (sl:Srt lt L) (sr:Srt lt R)
 (h1: ∀x y,L1.getLast?=some x->R2.head?=some y->lt x y) (h2: ∀x y,R1.getLast?=some x->L2.head?=some y->lt x y):Cut lt L R L1 L2 R1 R2:=by
 subst hl;subst hr;obtain ⟨a1,a2,a3⟩:=List.pairwise_append.1 sl;obtain ⟨b1,b2,b3⟩:=List.pairwise_append.1 sr;refine ⟨rfl,rfl,fun x hx y hy=>?_⟩;rcases List.mem_append.1 hx with hx|hx<;>rcases List.mem_append.1 hy with hy|hy
 ·exact a3 x hx y hy
 ·exact cross tr a1 b2 h1 x hx y hy
 ·exact cross tr b1 a2 h2 x hx y hy
 ·exact b3 x hx y hy
theorem Pre.search {D:List α} {a m b:Nat} {X L R Z:List α} (h:Pre lt cp D a m b X L R Z) (tr: ∀x y z,lt x y->lt y z->lt x z) (ham:a<m) (hmb:m<b) {mid s s0 r0:Nat} (hmid:mid=(a+b) / 2)
 (h0:if mid<m then s0=mid+m-b/\r0=mid else s0=a/\r0=m) (hs:s0<=s) (hr:s<=r0)
 (g1:s=s0∨ ∃x y,D[s-1]? =some x/\D[mid+m-1-(s-1)]? =some y/\lt x y) (g2:s=r0∨ ∃x y,D[s]? =some x/\D[mid+m-1-s]? =some y/\lt y x):
 ∃L1 L2 R1 R2,Cut lt L R L1 L2 R1 R2/\a+L1.length=s/\s+R1.length=mid/\mid+L2.length=mid+m-s/\(mid+m-s)+R2.length=b/\a<=s/\s<=m/\s<=mid/\m<=mid+m-s/\mid+m-s<=b:=by
 have hl:=h.l;have hr':=h.r;have hb1:a<=s/\s<=m/\s<=mid/\m<=mid+m-s/\mid+m-s<=b:=by split at h0<;>omega
 obtain ⟨L1,L2,hL,hL1⟩:=vV L (n:=s-a) (by omega);obtain ⟨R1,R2,hR,hR1⟩:=vV R (n:=mid-s) (by omega);have hLl:L.length=L1.length+L2.length:=by rw [hL,am7]
 have hRl:R.length=R1.length+R2.length:=by rw [hR,am7]
 refine ⟨L1,L2,R1,R2,aax tr hL hR h.sl h.sr (fun x y hx hy=>?_) (fun x y hx hy=>?_),by omega,by omega,by omega,by omega,hb1⟩
 ·have n1:0<L1.length:=by cases L1 with|nil=>simp at hx|cons=>simp
  have n2:0<R2.length:=by cases R2 with|nil=>simp at hy|cons=>simp
  rcases g1 with g|⟨x',y',e1,e2,g⟩
  ·split at h0<;>omega
  ·rw [h.P8 (by omega) (by omega),hL,anm (by omega),show s-1-a=L1.length-1 by omega,DN hx] at e1;rw [h.P9 (by omega) (by omega),hR,anb (by omega),show mid+m-1-(s-1)-m-R1.length=0 by omega,DR hy] at e2;cases e1;cases e2;exact g
 ·have n1:0<R1.length:=by cases R1 with|nil=>simp at hx|cons=>simp
  have n2:0<L2.length:=by cases L2 with|nil=>simp at hy|cons=>simp
  rcases g2 with g|⟨x',y',e1,e2,g⟩
  ·split at h0<;>omega
  ·rw [h.P8 (by omega) (by omega),hL,anb (by omega),show s-a-L1.length=0 by omega,DR hy] at e1;rw [h.P9 (by omega) (by omega),hR,anm (by omega),show mid+m-1-s-m=R1.length-1 by omega,DN hx] at e2;cases e1;cases e2;exact g
theorem Cut.post {L R L1 L2 R1 R2 X Z E1 E2 D':List α} (c:Cut lt L R L1 L2 R1 R2) (p1:E1.Perm (L1++R1)) (s1:Srt lt E1) (p2:E2.Perm (L2++R2)) (s2:Srt lt E2) (hD:D'=X++E1++E2++Z):Post lt X L R Z D':=by
 obtain ⟨rfl,rfl,hc⟩:=c;refine ⟨E1++E2,by rw [hD];simp,(p1.append p2).trans ?_,List.pairwise_append.2 ⟨s1,s2,fun x hx y hy=>hc x (p1.mem_iff.1 hx) y (p2.mem_iff.1 hy)⟩⟩;simp only [adK];refine List.Perm.append_left L1 ?_;rw [<-adK, <-adK];exact List.Perm.append_right R2 List.perm_append_comm
theorem Pre.left1 {D:List α} {a m b:Nat} {X R Z:List α} {x:α} (h:Pre lt cp D a m b X [x] R Z) (tr: ∀x y z,lt x y->lt y z->lt x z) {i:Nat} (h1:m<=i) (h2:i<=b)
 (g1:i=m∨ ∃y,D[i-1]? =some y/\lt y x) (g2:i=b∨ ∃y,D[i]? =some y/\lt x y): ∃R1 R2,R=R1++R2/\m+R1.length=i/\Srt lt (R1++ [x]++R2):=by
 have hr:=h.r;obtain ⟨R1,R2,hR,hR1⟩:=vV R (n:=i-m) (by omega);have hRl:R.length=R1.length+R2.length:=by rw [hR,am7]
 have sr:=h.sr;rw [hR] at sr;obtain ⟨b1,b2,b3⟩:=List.pairwise_append.1 sr;have k1: ∀y∈R1,lt y x:=fun y hy=>cross (lt:=lt) (B:=[x]) tr b1 (by simp) (fun p q hp hq=>by
  simp at hq;subst hq;have n1:0<R1.length:=by cases R1 with|nil=>simp at hp|cons=>simp
  rcases g1 with g|⟨y',e1,g⟩
  ·omega
  ·rw [h.P9 (by omega) (by omega),hR,anm (by omega),show i-1-m=R1.length-1 by omega,DN hp] at e1;cases e1;exact g) y hy x (by simp)
 have k2: ∀y∈R2,lt x y:=fun y hy=>cross (lt:=lt) (A:=[x]) tr (by simp) b2 (fun p q hp hq=>by
  simp at hp;subst hp;have n1:0<R2.length:=by cases R2 with|nil=>simp at hq|cons=>simp
  rcases g2 with g|⟨y',e1,g⟩
  ·omega
  ·rw [h.P9 (by omega) (by omega),hR,anb (by omega),show i-m-R1.length=0 by omega,DR hq] at e1;cases e1;exact g) x (by simp) y hy
 refine ⟨R1,R2,hR,by omega,List.pairwise_append.2 ⟨List.pairwise_append.2 ⟨b1,by simp,fun y hy z hz=>by simp at hz;subst hz;exact k1 y hy⟩,b2,fun y hy z hz=>?_⟩⟩;rcases List.mem_append.1 hy with hy|hy
 ·exact b3 y hy z hz
 ·simp at hy;subst hy;exact k2 z hz
theorem Pre.aay {D:List α} {a m b:Nat} {X L Z:List α} {x:α} (h:Pre lt cp D a m b X L [x] Z) (tr: ∀x y z,lt x y->lt y z->lt x z) {i:Nat} (h1:a<=i) (h2:i<=m)
 (g1:i=a∨ ∃y,D[i-1]? =some y/\lt y x) (g2:i=m∨ ∃y,D[i]? =some y/\lt x y): ∃L1 L2,L=L1++L2/\a+L1.length=i/\Srt lt (L1++ [x]++L2):=by
 have hr:=h.l;obtain ⟨R1,R2,hR,hR1⟩:=vV L (n:=i-a) (by omega);have hRl:L.length=R1.length+R2.length:=by rw [hR,am7]
 have sr:=h.sl;rw [hR] at sr;obtain ⟨b1,b2,b3⟩:=List.pairwise_append.1 sr;have k1: ∀y∈R1,lt y x:=fun y hy=>cross (lt:=lt) (B:=[x]) tr b1 (by simp) (fun p q hp hq=>by
  simp at hq;subst hq;have n1:0<R1.length:=by cases R1 with|nil=>simp at hp|cons=>simp
  rcases g1 with g|⟨y',e1,g⟩
  ·omega
  ·rw [h.P8 (by omega) (by omega),hR,anm (by omega),show i-1-a=R1.length-1 by omega,DN hp] at e1;cases e1;exact g) y hy x (by simp)
 have k2: ∀y∈R2,lt x y:=fun y hy=>cross (lt:=lt) (A:=[x]) tr (by simp) b2 (fun p q hp hq=>by
  simp at hp;subst hp;have n1:0<R2.length:=by cases R2 with|nil=>simp at hq|cons=>simp
  rcases g2 with g|⟨y',e1,g⟩
  ·omega
  ·rw [h.P8 (by omega) (by omega),hR,anb (by omega),show i-a-R1.length=0 by omega,DR hq] at e1;cases e1;exact g) x (by simp) y hy
 refine ⟨R1,R2,hR,by omega,List.pairwise_append.2 ⟨List.pairwise_append.2 ⟨b1,by simp,fun y hy z hz=>by simp at hz;subst hz;exact k1 y hy⟩,b2,fun y hy z hz=>?_⟩⟩;rcases List.mem_append.1 hy with hy|hy
 ·exact b3 y hy z hz
 ·simp at hy;subst hy;exact k2 z hz
theorem VZ {A B:List α} {p q:α} {k:Nat} (hk:A.length=k):((A++ [p]++ [q]++B).set k q).set (k+1) p=A++ [q]++ [p]++B:=by
 subst hk;rw [show A++ [p]++ [q]++B=A++(p::q::B) by simp,anw _ _ (aap _),anw _ _ (by omega)];simp
theorem JM {A B:List α} {p q:α} {k:Nat} (hk:A.length=k):((A++ [p]++ [q]++B).set (k+1) p).set k q=A++ [q]++ [p]++B:=by
 subst hk;rw [show A++ [p]++ [q]++B=A++(p::q::B) by simp,anw _ _ (by omega),anw _ _ (aap _)];simp
def Seg (lt:α->α->Prop) (D0 D:List α) (u v:Nat):Prop:=((D.drop u).take (v-u)).Perm ((D0.drop u).take (v-u))/\Srt lt ((D.drop u).take (v-u))
theorem Wh {X E Z:List α} {u v:Nat} (hx:X.length=u) (he:u+E.length=v):((X++E++Z).drop u).take (v-u)=E:=by
 rw [adK, <-hx,List.drop_left,show v-X.length=E.length by omega,anR]
theorem Wi (D:List α) {u v:Nat} (h1:u<=v) (h2:v<=D.length):D=D.take u++(D.drop u).take (v-u)++D.drop v/\(D.take u).length=u/\((D.drop u).take (v-u)).length=v-u:=by
 refine ⟨?_,by simp;omega,by simp;omega⟩;rw [adK];have:D.drop v=(D.drop u).drop (v-u):=by rw [aoa];congr 1;omega
 rw [this,aob,aob]
theorem Wj {X E E' Z:List α} {u v:Nat} (hv:v<=X.length):((X++E++Z).drop u).take (v-u)=((X++E'++Z).drop u).take (v-u):=by
 apply anC;intro i;rw [aaQ,aaQ];split
 ·rw [ad6,ad6,adK,adK,anm (by omega),anm (by omega)]
 ·rfl
theorem Uw {X E E' Z:List α} {u v:Nat} (he:E.length=E'.length) (hu:X.length+E.length<=u):((X++E++Z).drop u).take (v-u)=((X++E'++Z).drop u).take (v-u):=by
 apply anC;intro i;rw [aaQ,aaQ];split
 ·rw [ad6,ad6,anb (by simp;omega),anb (by simp;omega)];congr 1;simp;omega
 ·rfl
def Am (lt:α->α->Prop) (D0 D:List α) (bs lo hi:Nat):Prop:= ∀k,lo<=k*bs->k*bs<hi->Seg lt D0 D (k*bs) (min ((k+1)*bs) D0.length)
theorem Qa {S1 S2:List α} {x:α} (tr: ∀x y z,lt x y->lt y z->lt x z) (hs:Srt lt (S1++S2)) (h2: ∀y∈S2,lt x y) (h1: ∀y,S1.getLast?=some y->lt y x):Srt lt (S1++ [x]++S2):=by
 obtain ⟨a1,a2,a3⟩:=List.pairwise_append.1 hs;have k1: ∀y∈S1,lt y x:=fun y hy=>cross (lt:=lt) (B:=[x]) tr a1 (by simp) (fun p q hp hq=>by simp at hq;subst hq;exact h1 p hp) y hy x (by simp);refine List.pairwise_append.2 ⟨List.pairwise_append.2 ⟨a1,by simp,fun y hy z hz=>by simp at hz;subst hz;exact k1 y hy⟩,a2,fun y hy z hz=>?_⟩;rcases List.mem_append.1 hy with hy|hy
 ·exact a3 y hy z hz
 ·simp at hy;subst hy;exact h2 z hz
theorem YO (am5: ∀x y,lt x y-> ¬lt y x): ∀ {l l':List α},l.Perm l'->Srt lt l->Srt lt l'->l=l':=by
 intro l l' p h h';exact p.eq_of_pairwise (fun a b _ _ h1 h2=>absurd h2 (am5 a b h1)) h h'
end
end Go.Proofs.YtfbnfhhmiiahnaaGreatDoor.Sy
namespace Go.Proofs.YtfbnfhhmiiahnaaGreatDoor.Wk
open Go Go.RowKit
def Keep (Pb:Nat->Prop) (w w':World):Prop:= ∀b,Pb b->b<w.heap.size->w'.heap[b]? =w.heap[b]?
abbrev Rel (α:Type):=(Nat->Prop)->World->α->List Value->Prop
def Stable {α:Type} (R:Rel α):Prop:= ∀Pb w w' x cs,Keep Pb w w'->R Pb w x cs->R Pb w' x cs
def CO {α:Type} (R:Rel α):Prop:= ∀(Pb Pb':Nat->Prop) w x cs,(∀b,b<w.heap.size->Pb b->Pb' b)->R Pb w x cs->R Pb' w x cs
def one {α:Type} (f:α->Value):Rel α:=fun _ _ x cs=>cs=[f x]
def flat {α:Type} (f:α->List Value):Rel α:=fun _ _ x cs=>cs=f x
theorem nZ {α:Type} (f:α->Value):Stable (Wk.one f):=fun _ _ _ _ _ _ h=>h
theorem nV {α:Type} (f:α->Value):CO (Wk.one f):=fun _ _ _ _ _ _ h=>h
theorem oH {α:Type} (f:α->List Value):Stable (flat f):=fun _ _ _ _ _ _ h=>h
theorem nS {α:Type} (f:α->List Value):CO (flat f):=fun _ _ _ _ _ _ h=>h
def RdS {α:Type} (R:Rel α) (sz:Nat) (Pb:Nat->Prop) (w:World) (v:Value) (xs:List α):Prop:=
 (v=.slice none 0 0/\xs=[])∨(∃a cap,v=.slice (some a) 0 cap/\xs=[]/\cap<=maxLen)∨
 ∃b off cap cur e fr,v=.slice (some ⟨b,off,none⟩) xs.length cap/\Pb b/\w.heap[b]? =some (.cells cur e fr)/\xs.length<=cap/\cap<=maxLen/\off+xs.length*sz<=cur.size/\
  ∀(i:Nat) (x:α),xs[i]? =some x->R Pb w x ((cur.toList.drop (off+i*sz)).take sz)
section
variable {α:Type} {R:Rel α} {sz:Nat} {Pb:Nat->Prop} {w w':World} {v:Value} {xs:List α}
theorem uT {w:World} {b:Nat} {o:Obj} (h:w.heap[b]? =some o):b<w.heap.size:=(Array.getElem?_eq_some_iff.1 h).1
theorem RdS.keep (hR:Stable R) (hk:Keep Pb w w') (h:RdS R sz Pb w v xs):RdS R sz Pb w' v xs:=by
 rcases h with h|h|⟨b,off,cap,cur,e,fr,hv,hb,hh,h1,h2,h3,h4⟩
 ·exact .inl h
 ·exact .inr (.inl h)
 ·exact .inr<| .inr ⟨b,off,cap,cur,e,fr,hv,hb,(hk b hb (uT hh)).trans hh,h1,h2,h3,fun i x hx=>hR _ _ _ _ _ hk (h4 i x hx)⟩
theorem RdS.mono (hR:CO R) {Pb':Nat->Prop} (hP: ∀b,b<w.heap.size->Pb b->Pb' b) (h:RdS R sz Pb w v xs):RdS R sz Pb' w v xs:=by
 rcases h with h|h|⟨b,off,cap,cur,e,fr,hv,hb,hh,h1,h2,h3,h4⟩
 ·exact .inl h
 ·exact .inr (.inl h)
 ·exact .inr<| .inr ⟨b,off,cap,cur,e,fr,hv,hP b (uT hh) hb,hh,h1,h2,h3,fun i x hx=>hR _ _ _ _ _ hP (h4 i x hx)⟩
theorem cZ:RdS R sz Pb w (.slice none 0 0) []:=.inl ⟨rfl,rfl⟩
theorem RdS.form (h:RdS R sz Pb w v xs): ∃a cap,v=.slice a xs.length cap/\xs.length<=cap/\cap<=maxLen:=by
 rcases h with ⟨rfl,rfl⟩|⟨a,cap,rfl,rfl,hc⟩|⟨b,off,cap,cur,e,fr,rfl,_,_,h1,h2,_,_⟩
 ·exact ⟨none,0,rfl,aap _,by unfold maxLen;omega⟩
 ·exact ⟨some a,cap,rfl,anq _,hc⟩
 ·exact ⟨_,cap,rfl,h1,h2⟩
theorem kL (hR:Stable R) (sz:Nat):Stable (fun Pb w (xs:List α) cs=> ∃v,cs=[v]/\RdS R sz Pb w v xs):=fun _ _ _ _ _ hk ⟨v,e,h⟩=>⟨v,e,h.keep hR hk⟩
theorem CO.RdS (hR:CO R) (sz:Nat):CO (fun Pb w (xs:List α) cs=> ∃v,cs=[v]/\RdS R sz Pb w v xs):=fun _ _ _ _ _ hP ⟨v,e,h⟩=>⟨v,e,h.mono hR hP⟩
theorem addr_add (b off i:Nat):(⟨b,off,none⟩:Addr).add i=⟨b,off+i,none⟩:=by unfold Addr.add;split<;>simp_all
theorem RdS.cells (h:RdS R sz Pb w v xs) {i:Nat} {x:α} (hx:xs[i]? =some x):
 ∃b off cap,v=.slice (some ⟨b,off,none⟩) xs.length cap/\i<xs.length/\ ∃cs,cs.length=sz/\R Pb w x cs/\ ∀j u,cs[j]? =some u->w.cell? ⟨b,off+i*sz+j,none⟩=some u:=by
 have hi:i<xs.length:=(List.getElem?_eq_some_iff.1 hx).1;rcases h with ⟨_,rfl⟩|⟨_,_,_,rfl,_⟩|⟨b,off,cap,cur,e,fr,rfl,hb,hh,h1,h2,h3,h4⟩
 ·simp at hi
 ·simp at hi
 ·refine ⟨b,off,cap,rfl,hi,_,?_,h4 i x hx,?_⟩
  ·have:(i+1)*sz<=xs.length*sz:=aaw _ hi;rw [aaR] at this;simp only [anD,anS,anT];omega
  ·intro j u hu;rw [aaQ] at hu;split at hu
   ·rw [ad6] at hu;simp only [World.cell?,hh];simpa using hu
   ·cases hu
theorem RdS.take (h:RdS R sz Pb w v xs) {m:Nat} (hm:m<=xs.length) {a:Option Addr} {l cap:Nat} (hv:v=.slice a l cap):RdS R sz Pb w (.slice a m cap) (xs.take m):=by
 rcases h with ⟨rfl,rfl⟩|⟨a',cap',rfl,rfl,hc⟩|⟨b,off,cap',cur,e,fr,rfl,hb,hh,h1,h2,h3,h4⟩
 ·cases hv;simp at hm;subst hm;exact .inl ⟨rfl,by simp⟩
 ·cases hv;simp at hm;subst hm;exact .inr (.inl ⟨_,_,rfl,by simp,hc⟩)
 ·cases hv;have hl:(xs.take m).length=m:=by simp;omega
  refine .inr<| .inr ⟨b,off,_,cur,e,fr,by rw [hl],hb,hh,by omega,h2,?_,fun i x hx=>h4 i x ?_⟩
  ·rw [hl];have:=aaw sz hm;omega
  ·rw [aaQ] at hx;split at hx
   ·exact hx
   ·cases hx
theorem RdS.drop (h:RdS R sz Pb w v xs) {m:Nat} (hm:m<=xs.length) {a:Addr} {l cap:Nat} (hv:v=.slice (some a) l cap) (p:Addr) (hp:p=a.add (m*sz)∨m=cap/\p=a):RdS R sz Pb w (.slice (some p) (l-m) (cap-m)) (xs.drop m):=by
 rcases h with ⟨rfl,rfl⟩|⟨a',cap',rfl,rfl,hc⟩|⟨b,off,cap',cur,e,fr,rfl,hb,hh,h1,h2,h3,h4⟩
 ·cases hv
 ·cases hv;simp at hm;subst hm;exact .inr (.inl ⟨p,cap-0,by simp,by simp,by omega⟩)
 ·cases hv;have e1:xs.length*sz=m*sz+(xs.length-m)*sz:=by rw [<-aaR];congr 1;omega
  rcases hp with rfl|⟨hmc,rfl⟩
  ·rw [addr_add];refine .inr<| .inr ⟨b,off+m*sz,cap-m,cur,e,fr,by simp,hb,hh,by simp;omega,by omega,by simp only [anS];omega,fun i x hx=>?_⟩
   rw [ad6] at hx;have:=h4 (m+i) x hx;rw [aaR] at this
   rwa [anU]
  ·have hml:m=xs.length:=by omega
   have hd:xs.drop m=[]:=by rw [hml];simp
   rw [hd];refine .inr<| .inr ⟨b,off,cap-m,cur,e,fr,by simp [hml],hb,hh,by simp,by omega,by simp;omega,fun i x hx=>by simp at hx⟩
end
def KO:TypeDesc->Bool| .struct _| .array _ _=>true|_=>false
class ElT (P:Program) (e:TypeId) (sz bytes:outParam Nat) (agg:outParam Bool) (z:outParam Value):Prop where
 inf: ∃i,P.info? e=some i/\i.size=sz/\i.bytes=bytes/\i.zero=some z
 hz:z.cells.size=sz
 und: ∃u,P.underlying e=some u/\KO u=agg
class Fld (P:Program) (t:TypeId) (i:Nat) (off:outParam Nat) (ty:outParam TypeId):Prop where
 ex: ∃fs f,P.underlying t=some (.struct fs)/\fs[i]? =some f/\f.offset=off/\f.type=ty
theorem aG {P:Program} {e:TypeId} {sz bytes:Nat} {agg:Bool} {z:Value} (h:(P.info? e).map (fun i=>(i.zero,i.size,i.bytes))=some (some z,sz,bytes)) (hz:z.cells.size=sz) (hu:(P.underlying e).map KO=some agg):ElT P e sz bytes agg z:=by
 cases hi:P.info? e with
 |none=>rw [hi] at h;cases h
 |some i=>
  rw [hi] at h;simp only [am6,Option.some.injEq,Prod.mk.injEq] at h;cases hd:P.underlying e with
  |none=>rw [hd] at hu;cases hu
  |some u=>rw [hd] at hu;simp only [am6,Option.some.injEq] at hu;exact ⟨⟨i,hi,h.2.1,h.2.2,h.1⟩,hz,u,hd,hu⟩
theorem ElT.isAgg {P:Program} {e:TypeId} {sz bytes:Nat} {agg:Bool} {z:Value} (h:ElT P e sz bytes agg z) (w:World):(isAgg e).run P w=.ok agg w:=by
 obtain ⟨u,hu,ha⟩:=h.und;unfold Go.isAgg;simp only [Sem.run_bind,run_underlying hu,Result.andThen_ok];cases u<;>simp_all [KO]
theorem ElT.sizeOf {P:Program} {e:TypeId} {sz bytes:Nat} {agg:Bool} {z:Value} (h:ElT P e sz bytes agg z) (w:World):(sizeOf e).run P w=.ok sz w:=by
 obtain ⟨i,hi,hs,_,_⟩:=h.inf;simp [Go.sizeOf,typeInfo,hi,hs]
theorem ElT.zeroValue {P:Program} {e:TypeId} {sz bytes:Nat} {agg:Bool} {z:Value} (h:ElT P e sz bytes agg z) (w:World):(zeroValue e).run P w=.ok z w:=by
 obtain ⟨i,hi,_,_,hz⟩:=h.inf;simp [Go.zeroValue,typeInfo,hi,hz]
section
variable {P:Program} {n:Nat} {ds:List Deferred} {Q:Po} {F:Fr} {w w':World} {ops rest:List Oper} {d d1 d2:Nat} {ty ty1 ty2:TypeId} {pos pos1 pos2:String} {aft Hl Ho:Array Edge}
theorem NC {t ty e:TypeId} {a:Option Addr} {l cap:Nat} (ht:P.underlying t=some (.slice e)):(Builtin.len_ #[t] ty #[.slice a l cap]).run P w=.ok (vi l) w:=by
 simp [Builtin.len_,run_underlying ht,goInt]
theorem Qc {t ty:TypeId} {l:List UInt8} (ht:P.underlying t=some .string):(Builtin.len_ #[t] ty #[vs l]).run P w=.ok (vi l.length) w:=by
 simp [Builtin.len_,run_underlying ht,goInt, <-ByteArray.size_data]
theorem bU {x:Operand} {t e:TypeId} {a:Option Addr} {l cap:Nat} [ht:Und P t (.slice e)] (hx:ev n F x=.slice a l cap)
 (c:Wl P n ds Q ops rest (upd F d (vi l)) w):Wl P n ds Q ops (⟨some d,.call {callee:=.builtin .len,args:= #[x],argTypes:= #[t]},ty,pos,aft,none⟩::rest) F w:=
 Wl.val (by simp only [execOp,resolve,Sem.run_bind,Sem.run_pure,Result.andThen_ok,invoke,builtin,am9,acd,anc,hx,NC ht.h]) c
theorem iK {x:Operand} {t:TypeId} {l:List UInt8} [ht:Und P t .string] (hx:ev n F x=vs l)
 (c:Wl P n ds Q ops rest (upd F d (vi l.length)) w):Wl P n ds Q ops (⟨some d,.call {callee:=.builtin .len,args:= #[x],argTypes:= #[t]},ty,pos,aft,none⟩::rest) F w:=
 Wl.val (by simp only [execOp,resolve,Sem.run_bind,Sem.run_pure,Result.andThen_ok,invoke,builtin,am9,acd,anc,hx,Qc ht.h]) c
theorem Qd {t:TypeId} {l:List UInt8} {k:IntKind} {j:Int} {c:UInt8} (ht:P.underlying t=some .string) (h0:0<=j) (hj:l[j.toNat]? =some c):(Instr.index t (vs l) (.int k j)).run P w=.ok (.int .u8 c.toNat) w:=by
 have hlt:j.toNat<l.length:=(List.getElem?_eq_some_iff.1 hj).1;have hg:(⟨l.toArray⟩:ByteArray)[j.toNat]? =some c:=by rw [ByteArray.getElem?_lt' _ _ (by simpa [ByteArray.size] using hlt)];have:=(List.getElem?_eq_some_iff.1 hj).2;simp only [Option.some.injEq];rw [<-this];rfl
 simp only [Instr.index,asIntOf,Sem.run_bind,Sem.run_pure,Result.andThen_ok,run_underlying ht];rw [if_pos h0,hg];rfl
theorem run_indexAt {t e:TypeId} {sz bytes:Nat} {agg:Bool} {z:Value} {a:Addr} {l cap:Nat} {k:IntKind} {j:Int} (ht:P.underlying t=some (.slice e)) (he:ElT P e sz bytes agg z) (h0:0<=j) (h1:j<l):
 (Instr.indexAt t (.slice (some a) l cap) (.int k j)).run P w=.ok (.pointer (some (a.add (j.toNat*sz)))) w:=by
 simp [Instr.indexAt,asIntOf,run_underlying ht,h0,h1,he.sizeOf]
theorem JO {e:TypeId} {bytes:Nat} {z:Value} {a:Addr} {u:Value} (he:ElT P e 1 bytes false z) (h:w.cell? a=some u):
 (Instr.loadAt e (.pointer (some a))).run P w=.ok u w:=by
 simp [Instr.loadAt,Instr.sureAddr,loadVar,he.isAgg,h]
theorem BB {e:TypeId} {sz bytes:Nat} {z:Value} {b o:Nat} {cs:List Value} (he:ElT P e sz bytes true z) (hl:cs.length=sz) (h: ∀j u,cs[j]? =some u->w.cell? ⟨b,o+j,none⟩=some u):
 (Instr.loadAt e (.pointer (some ⟨b,o,none⟩))).run P w=.ok (.agg cs.toArray) w:=by
 have:=run_loadCells_list (P:=P) w ⟨b,o,none⟩ cs (fun j u hu=>by rw [addr_add];exact h j u hu);simp [Instr.loadAt,Instr.sureAddr,loadVar,he.isAgg,he.sizeOf, <-hl,this]
theorem jG (w:World) (o:Obj) {k:Nat} (hk:k<w.heap.size):(w.alloc o).heap[k]? =w.heap[k]? :=by
 show (w.heap.push o)[k]? =_;rw [Array.getElem?_push,if_neg (by omega)]
theorem CP (off:Nat): ∀(l:List Value) (k:Nat) (pre post zs:List Value),zs.length=l.length->pre.length=off+k->
 (l.zipIdx k).foldl (fun (cs:Array Value) (c:Value×Nat)=>cs.setIfInBounds (off+c.2) c.1) (pre++zs++post).toArray=(pre++l++post).toArray
 | [],_,_,_,zs,h,_=>by cases zs<;>simp_all
 |x::l,k,pre,post,zs,h,hp=>by
  match zs,h with
  |z::zs,h=>
   simp only [List.zipIdx_cons,List.foldl_cons];have e:(pre++(z::zs)++post).toArray.setIfInBounds (off+k) x=((pre++ [x])++zs++post).toArray:=by rw [<-hp];simp [List.set_append]
   rw [e,CP off l (k+1) (pre++ [x]) post zs (by simpa using h) (by simp [hp];omega)];simp
theorem Wp {cells:Array Value} {v:Value} (hv:v.cells.size=cells.size):Instr.fill (fun i=>some (i*cells.size,cells.size)) cells [(0,v)]=some v.cells:=by
 simp only [Instr.fill,anV,ace,hv];rw [if_neg (by simp)];congr 1;have:=CP 0 v.cells.toList 0 [] [] cells.toList (by simpa using hv.symm) rfl;simp only [ang,List.append_nil,Array.toArray_toList,ace] at this;rw [<-aoc,aod];simpa using this
theorem Ad {t e:TypeId} {sz bytes:Nat} {agg:Bool} {z v:Value} (ht:P.underlying t=some (.slice e)) (he:ElT P e sz bytes agg z) (hv:v.cells.size=sz) (hs:0<sz) (hs2:sz<=16777216):
 (Instr.buildSlice t 1 #[(0,v)]).run P w=.ok (.slice (some ⟨w.heap.size,0,none⟩) 1 1) (w.alloc (.cells v.cells e)):=by
 have hne: ¬sz=0:=by omega
 have hz:=he.hz;have e2:(Array.range sz).map (fun i=>z.cells[i % z.cells.size]!)=z.cells:=by
  apply Array.ext
  ·simp [hz]
  ·intro i h1 h2;have h3:i<z.cells.size:=h2;simp [Nat.mod_eq_of_lt h3,h3]
 have e3:=Wp (cells:=z.cells) (v:=v) (by rw [hv,hz]);rw [hz] at e2 e3;simp only [Instr.buildSlice,Sem.run_bind,run_underlying ht,Result.andThen_ok,he.sizeOf,Nat.one_mul];rw [if_neg (by omega),if_neg hne];simp only [Sem.run_bind,Result.andThen_ok,he.zeroValue,Sem.run_pure,hz,e2,e3,newRow,run_newObj];rfl
end
structure Chg (M:Nat->Prop) (w w':World):Prop where
 os:w'.os=w.os
 tape:w'.tape=w.tape
 output:w'.output=w.output
 size:w.heap.size<=w'.heap.size
 block: ∀k,k<w.heap.size-> ¬M k->w'.heap[k]? =w.heap[k]?
abbrev New (w w':World):Prop:=Chg (fun _=>False) w w'
section
variable {M M':Nat->Prop} {w w' w'':World}
theorem ay (M:Nat->Prop) (w:World):Chg M w w:=⟨rfl,rfl,rfl,aap _,fun _ _ _=>rfl⟩
theorem Chg.trans (h:Chg M w w') (h':Chg M' w' w'') (hM: ∀k,k<w.heap.size->M' k->M k):Chg M w w'':=
 ⟨h'.os.trans h.os,h'.tape.trans h.tape,h'.output.trans h.output,Nat.le_trans h.size h'.size,fun k hk hn=>
   (h'.block k (Nat.lt_of_lt_of_le hk h.size) fun e=>hn (hM k hk e)).trans (h.block k hk hn)⟩
theorem Chg.mono (h:Chg M w w') (hM: ∀k,k<w.heap.size->M k->M' k):Chg M' w w':=
 ⟨h.os,h.tape,h.output,h.size,fun k hk hn=>h.block k hk fun e=>hn (hM k hk e)⟩
theorem New.trans (h:New w w') (h':New w' w''):New w w'':=Chg.trans h h' i3
theorem New.any (h:New w w'):Chg M w w':=h.mono fun _ _ e=>e.elim
theorem Chg.alloc (M:Nat->Prop) (w:World) (o:Obj):Chg M w (w.alloc o):=⟨rfl,rfl,rfl,by simp,fun k hk _=>jG w o hk⟩
theorem Chg.drew (M:Nat->Prop) (w:World):Chg M w w.drew:=⟨rfl,rfl,rfl,aap _,fun _ _ _=>rfl⟩
theorem Chg.below {B:Nat} (h:Chg M w w') (hM: ∀k,k<B-> ¬M k) (hB:B<=w.heap.size):Below B w w':=⟨h.os,h.tape,h.output,h.size,fun k hk=>h.block k (by omega) (hM k hk)⟩
theorem New.below (h:New w w'):Below w.heap.size w w':=Chg.below h i3 (aap _)
theorem jH (h:Below w.heap.size w w'):New w w':=⟨h.os,h.tape,h.output,h.size,fun k hk _=>h.block k hk⟩
theorem Chg.setRow {g:Nat} {cs:Array Value} (hg:M g):Chg M w (w.setRow g cs):=⟨rfl,rfl,rfl,by simp,fun k _ hn=>setRow_other w g k cs fun e=>hn (e▸hg)⟩
theorem Chg.keep {Pb:Nat->Prop} (h:Chg M w w') (hd: ∀b,b<w.heap.size->Pb b-> ¬M b):Keep Pb w w':=fun b hb hlt=>h.block b hlt (hd b hlt hb)
theorem New.keep {Pb:Nat->Prop} (h:New w w'):Keep Pb w w':=fun b _ hlt=>h.block b hlt id
end
def uH (Pb:Nat->Prop) (w:World) (e:TypeId) (sz:Nat) (v:Value) (m:Nat) (cs:List Value):Prop:=
 cs.length=m*sz/\((v=.slice none 0 0/\m=0)∨
  ∃g cap cur,v=.slice (some ⟨g,0,none⟩) m cap/\Pb g/\w.heap[g]? =some (.cells cur e (0,0))/\m<=cap/\cap<=maxLen/\cur.size=cap*sz/\cur.toList.take (m*sz)=cs)
structure qH {α:Type} (R:Rel α) (sz:Nat):Prop where
 st:Stable R
 mo:CO R
 oc: ∀Pb w x cs,R Pb w x cs->cs.length=sz-> ∀c∈cs,c.oneCell'=true
theorem tN {α:Type} (f:α->Value) (h: ∀x,(f x).oneCell'=true):qH (Wk.one f) 1:=⟨nZ f,nV f,fun _ _ x cs e _ c hc=>by cases e;simp at hc;rw [hc];exact h x⟩
def nP {α:Type} (R:Rel α) (e:TypeId) (sz:Nat) (Pb Pe:Nat->Prop) (w:World) (v:Value) (xs:List α):Prop:=
 ∃cs,uH Pb w e sz v xs.length cs/\ ∀(i:Nat) (x:α),xs[i]? =some x->R (fun b=>Pe b/\v.ownBlock≠some b) w x ((cs.drop (i*sz)).take sz)
section
variable {α:Type} {R:Rel α} {e:TypeId} {sz:Nat} {Pb Pe Pb' Pe' M:Nat->Prop} {w w':World} {v:Value} {xs:List α}
theorem uH.form {m:Nat} {cs:List Value} (h:uH Pb w e sz v m cs): ∃a cap,v=.slice a m cap/\m<=cap/\cap<=maxLen:=by
 rcases h.2 with ⟨rfl,rfl⟩|⟨g,cap,cur,rfl,_,_,h1,h2,_⟩
 ·exact ⟨none,0,rfl,aap _,by unfold maxLen;omega⟩
 ·exact ⟨_,cap,rfl,h1,h2⟩
theorem uH.lt {m:Nat} {cs:List Value} (h:uH Pb w e sz v m cs) {k:Nat} (hk:v.ownBlock=some k):Pb k/\k<w.heap.size:=by
 rcases h.2 with ⟨rfl,rfl⟩|⟨g,cap,cur,rfl,hb,hg,_⟩
 ·cases hk
 ·simp only [Value.ownBlock,Option.some.injEq] at hk;subst hk;exact ⟨hb,uT hg⟩
theorem uH.keep {m:Nat} {cs:List Value} (h:uH Pb w e sz v m cs) (hk:Keep Pb w w'):uH Pb w' e sz v m cs:=by
 refine ⟨h.1,?_⟩;rcases h.2 with h|⟨g,cap,cur,hv,hb,hg,r⟩
 ·exact .inl h
 ·exact .inr ⟨g,cap,cur,hv,hb,(hk g hb (uT hg)).trans hg,r⟩
theorem uH.mono {m:Nat} {cs:List Value} (h:uH Pb w e sz v m cs) (hP: ∀b,b<w.heap.size->Pb b->Pb' b):uH Pb' w e sz v m cs:=by
 refine ⟨h.1,?_⟩;rcases h.2 with h|⟨g,cap,cur,hv,hb,hg,r⟩
 ·exact .inl h
 ·exact .inr ⟨g,cap,cur,hv,hP g (uT hg) hb,hg,r⟩
theorem aI:nP R e sz Pb Pe w (.slice none 0 0) []:=⟨[],⟨by simp,.inl ⟨rfl,rfl⟩⟩,fun i x hx=>by simp at hx⟩
theorem nP.form (h:nP R e sz Pb Pe w v xs): ∃a cap,v=.slice a xs.length cap/\xs.length<=cap/\cap<=maxLen:=by
 obtain ⟨cs,h,_⟩:=h;exact h.form
theorem nP.lt (h:nP R e sz Pb Pe w v xs) {k:Nat} (hk:v.ownBlock=some k):Pb k/\k<w.heap.size:=by
 obtain ⟨cs,h,_⟩:=h;exact h.lt hk
theorem nP.keep (hR:Stable R) (h:nP R e sz Pb Pe w v xs) (hk:Keep Pb w w') (hk':Keep Pe w w'):nP R e sz Pb Pe w' v xs:=by
 obtain ⟨cs,h,he⟩:=h;exact ⟨cs,h.keep hk,fun i x hx=>hR _ _ _ _ _ (fun b hb=>hk' b hb.1) (he i x hx)⟩
theorem nP.mono (hR:CO R) (h:nP R e sz Pb Pe w v xs) (hP: ∀b,b<w.heap.size->Pb b->Pb' b) (hP': ∀b,b<w.heap.size->Pe b->Pe' b):nP R e sz Pb' Pe' w v xs:=by
 obtain ⟨cs,h,he⟩:=h;exact ⟨cs,h.mono hP,fun i x hx=>hR _ _ _ _ _ (fun b hb hb'=>⟨hP' b hb hb'.1,hb'.2⟩) (he i x hx)⟩
theorem nP.ZY {f:α->Value} (h:nP (Wk.one f) e sz Pb Pe w v xs) (hk:Keep Pb w w'):nP (Wk.one f) e sz Pb Pe w' v xs:=by
 obtain ⟨cs,h,he⟩:=h;exact ⟨cs,h.keep hk,he⟩
theorem nP.rd (hR:CO R) (h:nP R e sz Pb Pe w v xs):RdS R sz (fun b=>Pb b∨Pe b) w v xs:=by
 obtain ⟨cs,⟨hl,h⟩,he⟩:=h;rcases h with ⟨rfl,hm⟩|⟨g,cap,cur,rfl,hb,hg,h1,h2,h3,h4⟩
 ·exact .inl ⟨rfl,anf hm⟩
 ·have hle:xs.length*sz<=cap*sz:=aaw _ h1;refine .inr<| .inr ⟨g,0,cap,cur,e,_,rfl,.inl hb,hg,h1,h2,by omega,fun i x hx=>?_⟩
  have:=hR _ (fun b=>Pb b∨Pe b) _ _ _ (fun b _ hb=>Or.inr hb.1) (he i x hx);rw [<-h4] at this;have hi:i<xs.length:=(List.getElem?_eq_some_iff.1 hx).1;have hi2:(i+1)*sz<=xs.length*sz:=aaw _ hi;rw [aaR] at hi2;rw [anE,anr,anh (by omega)] at this;rw [ace];exact this
end
section
variable {P:Program} {w:World}
theorem zx (t ty e:TypeId) {sz bytes:Nat} {agg:Bool} {z:Value} (ht:P.underlying t=some (.slice e)) (he:ElT P e sz bytes agg z) (hsz:0<sz)
 {Pb:Nat->Prop} {v:Value} {m:Nat} {cs:List Value} (hown:uH Pb w e sz v m cs)
 (a:Addr) (k c:Nat) (news:List Value) (hl:news.length=k*sz) (hnews: ∀j u,news[j]? =some u->w.cell? (a.add j)=some u) (h1: ∀u∈news,u.oneCell'=true)
 (h63:m+k<=maxLen) (hby:(m+k)*bytes<=140737488355328):
 ∃v' w',(Builtin.append_ #[t,t] ty #[v,.slice (some a) k c]).run P w=.ok v' w'/\uH (fun b=>Pb b∨w.heap.size<=b) w' e sz v' (m+k) (cs++news)/\Chg (fun b=>v.ownBlock=some b) w w'/\
  (v'.ownBlock=v.ownBlock∨ ∀b,v'.ownBlock=some b->w.heap.size<=b):=by
 obtain ⟨i,hi,hsz',Qg,hz'⟩:=he.inf;have hz:=he.hz;subst hsz';subst Qg;have hsmall:m+k<=9223372036854775807:=by simp only [maxLen] at h63;omega
 have hlen:(cs++news).length=(m+k)*i.size:=by rw [am7,hown.1,hl,aaR]
 have grown: ∀(old:Nat),old<m+k->
  uH (fun b=>Pb b∨w.heap.size<=b) (w.drew.alloc (.cells (cs.toArray++news.toArray++Builtin.zeroCells z.cells (grownCap w (m+k) old e-(m+k))) e)) e i.size
   (.slice (some ⟨w.heap.size,0,none⟩) (m+k) (grownCap w (m+k) old e)) (m+k) (cs++news):=by
  intro old ho;have hge:=grownCap_ge w (m+k) old e;have hcm:grownCap w (m+k) old e<=maxLen:=grownCap_le_maxLen w (m+k) old e h63;refine ⟨hlen,.inr ⟨w.heap.size,_,_,rfl,.inr (aap _),heap_alloc_new w.drew _,hge,hcm,?_,?_⟩⟩
  ·simp only [Array.size_append,anu,size_zeroCells,hz,hown.1,hl, <-aaR];congr 1;omega
  ·simp only [aoe,adK];rw [<-adK, <-hlen];exact anR
 have chg: ∀M o,Chg M w (w.drew.alloc o):=fun M o=>⟨rfl,rfl,rfl,by simp,fun k hk _=>jG w.drew o hk⟩;rcases hown.2 with ⟨rfl,rfl⟩|⟨g,cap,cur,rfl,hbg,hg,hnc,hcm,hcs,htake⟩
 ·have hx:cs=[]:=anf (by simpa using hown.1);subst hx;by_cases hm:k=0
  ·subst hm;have hn:news=[]:=anf (by simpa using hl);subst hn;refine ⟨.slice none 0 0,w,?_,⟨by simp,.inl ⟨rfl,rfl⟩⟩,ay _ _,.inl rfl⟩;simp [Builtin.append_,run_underlying ht,sizeOf,typeInfo,hi,Builtin.lenOf,Builtin.firstCells,loadCells,loadCellsFrom]
  ·have hr:=run_append_nil (P:=P) w t ty e i z ht hi hz' a k c news hl hnews (by omega) (by omega) (by have hb:=hby;simp only [ace] at hb;omega);have hgr:=grown 0 (by omega);simp only [ace,ang,Array.empty_append] at hgr ⊢;exact ⟨_,_,hr,hgr,chg _ _,.inr fun b hb=>by simp only [Value.ownBlock,Option.some.injEq] at hb;omega⟩
 ·by_cases hroom:m+k<=cap
  ·have hfit:m*i.size+news.length<=cur.size:=by rw [hl,hcs, <-aaR];exact aaw _ hroom
   have hr:=run_append_room (P:=P) w t ty e i ht hi g m cap cur hg a k c news hl hnews h1 hroom hfit;refine ⟨_,_,hr,⟨hlen,.inr ⟨g,cap,_,rfl,.inl hbg,setRow_heap w g cur _ e _ hg,hroom,hcm,?_,?_⟩⟩,Chg.setRow rfl,.inl rfl⟩
   ·simp only [anu,am7,anD,anS,anT];omega
   ·rw [htake, <-hlen];exact anR
  ·have holds: ∀j u,cs[j]? =some u->w.cell? ((⟨g,0,none⟩:Addr).add j)=some u:=by
    intro j u hu;rw [addr_add,ace];simp only [World.cell?,hg];rw [<-htake,aaQ] at hu;split at hu
    ·simpa using hu
    ·cases hu
   have hr:=run_append_grow (P:=P) w t ty e i z ht hi hz' ⟨g,0,none⟩ m cap cs hown.1 holds a k c news hl hnews (by omega) (by omega) (growslice_fits (by omega) hby);exact ⟨_,_,hr,grown cap (by omega),chg _ _,.inr fun b hb=>by simp only [Value.ownBlock,Option.some.injEq] at hb;omega⟩
theorem Cb (t ty e:TypeId) {sz bytes:Nat} {agg:Bool} {z:Value} (ht:P.underlying t=some (.slice e)) (he:ElT P e sz bytes agg z)
 {Pb:Nat->Prop} {v:Value} {m:Nat} {cs:List Value} (hown:uH Pb w e sz v m cs):
 (Builtin.append_ #[t,t] ty #[v,.slice none 0 0]).run P w=.ok v w:=by
 obtain ⟨i,hi,_,_,_⟩:=he.inf;rcases hown.2 with ⟨rfl,rfl⟩|⟨g,cap,cur,rfl,_,_,hnc,_⟩
 ·simp [Builtin.append_,run_underlying ht,sizeOf,typeInfo,hi,Builtin.lenOf,Builtin.firstCells]
 ·simp [Builtin.append_,run_underlying ht,sizeOf,typeInfo,hi,Builtin.lenOf,Builtin.firstCells,hnc,storeCells]
end
section
variable {α:Type} {R:Rel α} {Pb Pe:Nat->Prop} {xs:List α}
variable {P:Program} {n:Nat} {ds:List Deferred} {Q:Po} {F:Fr} {w w':World} {ops rest:List Oper} {d d1 d2:Nat} {ty ty1 ty2:TypeId} {pos pos1 pos2:String} {aft Hl Ho:Array Edge}
theorem zy {sz:Nat} {cs news:List Value} {ys:List α} {v v':Value} (hR:qH R sz) (hlc:cs.length=xs.length*sz)
 (he: ∀(i:Nat) (x:α),xs[i]? =some x->R (fun b=>Pe b/\v.ownBlock≠some b) w x ((cs.drop (i*sz)).take sz))
 (hn: ∀(i:Nat) (x:α),ys[i]? =some x->R (fun b=>Pe b/\v.ownBlock≠some b) w x ((news.drop (i*sz)).take sz))
 (hc:Chg (fun b=>v.ownBlock=some b) w w') (hv:v'.ownBlock=v.ownBlock∨ ∀b,v'.ownBlock=some b->w.heap.size<=b):
 ∀(i:Nat) (x:α),(xs++ys)[i]? =some x->R (fun b=>Pe b/\v'.ownBlock≠some b) w' x (((cs++news).drop (i*sz)).take sz):=by
 have key: ∀x l,R (fun b=>Pe b/\v.ownBlock≠some b) w x l->R (fun b=>Pe b/\v'.ownBlock≠some b) w' x l:=by
  intro x l h;have h1:=hR.mo _ (fun b=>(Pe b/\v'.ownBlock≠some b)/\v.ownBlock≠some b) w x l (fun b hb hP=>⟨⟨hP.1,fun e=>by
   rcases hv with e'|h'
   ·exact hP.2 (e'▸e)
   ·have:=h' b e;omega⟩,hP.2⟩) h
  have h2:=hR.st _ _ _ _ _ (hc.keep (fun b _ hb=>hb.2)) h1;exact hR.mo _ _ _ _ _ (fun b _ hb=>hb.1) h2
 intro i x hx;rw [anW] at hx;split at hx
 ·rename_i hi
  have hle:(i+1)*sz<=xs.length*sz:=aaw _ hi;rw [aaR] at hle;have e1:((cs++news).drop (i*sz)).take sz=(cs.drop (i*sz)).take sz:=by rw [aof,anX (by simp;omega)]
  rw [e1];exact key _ _ (he i x hx)
 ·rename_i hi
  have hi':xs.length<=i:=Nat.not_lt.1 hi;have e1:((cs++news).drop (i*sz)).take sz=(news.drop ((i-xs.length)*sz)).take sz:=by have hle:xs.length*sz<=i*sz:=aaw _ hi';rw [aof,List.drop_eq_nil_of_le (by omega),ang,hlc,aog]
  rw [e1];exact key _ _ (hn _ x hx)
theorem cu {x s:Operand} {t e:TypeId} {sz bytes:Nat} {agg:Bool} {z v u:Value} {y:α} {cs:List Value} (hR:qH R sz)
 (hown:nP R e sz Pb Pe w v xs) [ht:Und P t (.slice e)] [he:ElT P e sz bytes agg z] (hs:ev n F s=v) (hx:ev n F x=u) (hcs:u.cells.toList=cs) (hl:cs.length=sz) (hy:R (fun b=>Pe b/\v.ownBlock≠some b) w y cs)
 (hsz:0<sz) (hsz2:sz<=16777216) (h63:xs.length+1<=maxLen) (hby:(xs.length+1)*bytes<=140737488355328) (hd:ada d1 n=true) (hsd:(match s with| .tmp q=>ank q d1|_=>false)=false)
 (c: ∀v' w' p,nP R e sz (fun b=>Pb b∨w.heap.size<=b) Pe w' v' (xs++ [y])->Chg (fun b=>v.ownBlock=some b) w w'->(v'.ownBlock=v.ownBlock∨ ∀b,v'.ownBlock=some b->w.heap.size<=b)->Wl P n ds Q ops rest (upd (upd F d1 p) d2 v') w'):
 Wl P n ds Q ops (⟨some d1,.buildSlice t 1 #[(0,x)],ty1,pos1,Hl,none⟩::⟨some d2,.call {callee:=.builtin .append,args:= #[s,.tmp d1],argTypes:= #[t,t]},ty2,pos2,Ho,none⟩::rest) F w:=by
 obtain ⟨ocs,hoc,hoe⟩:=hown;have h1: ∀c∈cs,c.oneCell'=true:=hR.oc _ _ _ _ hy hl;have huc:u.cells.size=sz:=by rw [<-hl, <-hcs];simp
 have r1:=Ad (P:=P) (w:=w) ht.h he huc hsz hsz2;let w1:=w.alloc (.cells u.cells e);have hk1:New w w1:=Chg.alloc _ _ _;have hnew: ∀j q,cs[j]? =some q->w1.cell? ((⟨w.heap.size,0,none⟩:Addr).add j)=some q:=by intro j q hq;rw [addr_add,ace];have:w1.heap[w.heap.size]? =some (.cells u.cells e):=heap_alloc_new w _;simp only [World.cell?,this];rw [<-hcs] at hq;simpa using hq
 obtain ⟨v',w',hr,h2,h3,h4⟩:=zx (P:=P) (w:=w1) t ty2 e ht.h he hsz (hoc.keep hk1.keep) ⟨w.heap.size,0,none⟩ 1 1 cs (by omega) hnew h1 h63 hby;have afI:w1.heap.size=w.heap.size+1:=by simp [w1]
 have hel:=zy (w:=w1) (w':=w') (ys:=[y]) (news:=cs) hR hoc.1 (fun i x hx=>hR.st _ _ _ _ _ hk1.keep (hoe i x hx))
  (fun i x hx=>by
    have hi:i=0:=by
     rcases anY i with h|h
     ·exact h
     ·rw [anl (by simp;omega)] at hx;cases hx
    subst hi;simp only [List.getElem?_cons_zero,Option.some.injEq] at hx;subst hx;simp only [anV,anK];rw [anL (by omega)];exact hR.st _ _ _ _ _ hk1.keep hy) h3 h4
 refine Wl.val (w':=w1) (v:=.slice (some ⟨w.heap.size,0,none⟩) 1 1) ?_ (Wl.val (w':=w') (v:=v') ?_ (c v' w' _ ⟨ocs++cs,?_,hel⟩ ?_ (h4.imp id fun h b hb=>by have:=h b hb;omega)))
 ·simp only [execOp,am9,acd,anc,hx,Sem.run_bind,r1,Result.andThen_ok,Sem.run_pure,w1]
 ·have e1:ev n (upd F d1 (.slice (some ⟨w.heap.size,0,none⟩) 1 1)) s=v:=by
   cases s with
   |tmp q=>simp only [ev] at hs ⊢;rw [Aw,if_neg (anA hsd)];exact hs
   |_=>exact hs
  have e2:ev n (upd F d1 (.slice (some ⟨w.heap.size,0,none⟩) 1 1)) (.tmp d1)=.slice (some ⟨w.heap.size,0,none⟩) 1 1:=by simp only [ev,hd,Aw,if_pos]
  simp only [execOp,resolve,invoke,builtin,Sem.run_bind,Sem.run_pure,Result.andThen_ok,am9,acd,anc,e1,e2,hr]
 ·rw [am7,anM];exact h2.mono fun b _ hb=>hb.imp id (fun h=>by omega)
 ·exact hk1.any.trans h3 fun _ _ h=>h
theorem bY {x s:Operand} {t e:TypeId} {sz bytes:Nat} {agg:Bool} {z v u:Value} {Pr:Nat->Prop} {ys:List α} (hR:qH R sz)
 (hown:nP R e sz Pb Pe w v xs) (hr:RdS R sz Pr w u ys) (hp: ∀y cs,R Pr w y cs->R (fun b=>Pe b/\v.ownBlock≠some b) w y cs) [ht:Und P t (.slice e)] [he:ElT P e sz bytes agg z] (hs:ev n F s=v) (hx:ev n F x=u)
 (hsz:0<sz) (h63:xs.length+ys.length<=maxLen) (hby:(xs.length+ys.length)*bytes<=140737488355328)
 (c: ∀v' w',nP R e sz (fun b=>Pb b∨w.heap.size<=b) Pe w' v' (xs++ys)->Chg (fun b=>v.ownBlock=some b) w w'->(v'.ownBlock=v.ownBlock∨ ∀b,v'.ownBlock=some b->w.heap.size<=b)->(Builtin.append_ #[t,t] ty #[v,u]).run P w=.ok v' w'->Wl P n ds Q ops rest (upd F d v') w'):
 Wl P n ds Q ops (⟨some d,.call {callee:=.builtin .append,args:= #[s,x],argTypes:= #[t,t]},ty,pos,aft,none⟩::rest) F w:=by
 obtain ⟨ocs,hoc,hoe⟩:=hown;have run: ∀v' w',(Builtin.append_ #[t,t] ty #[v,u]).run P w=.ok v' w'->(execOp (ev n F) ⟨some d,.call {callee:=.builtin .append,args:= #[s,x],argTypes:= #[t,t]},ty,pos,aft,none⟩).run P w=.ok (.value v') w':=by intro v' w' h;simp only [execOp,resolve,invoke,builtin,Sem.run_bind,Sem.run_pure,Result.andThen_ok,am9,acd,anc,hs,hx,h]
 rcases hr with ⟨rfl,rfl⟩|⟨a,cap,rfl,rfl,_⟩|⟨b,off,cap,cur,e',fr,rfl,hb,hh,h1,h2,h3,h4⟩
 rotate_left
 ·obtain ⟨v',w',hr,g2,g3,g4⟩:=zx (P:=P) (w:=w) t ty e ht.h he hsz hoc a 0 cap [] (by simp) (fun j u hu=>by simp at hu) (by simp) (by omega) (by simpa using hby);refine Wl.val (run _ _ hr) (c v' w' ⟨ocs++ [],?_,zy hR hoc.1 hoe (ys:=[]) (fun i x hx=>by simp at hx) g3 g4⟩ g3 g4 hr);simpa using g2
 rotate_left
 ·refine Wl.val (run _ _ (Cb (P:=P) (w:=w) t ty e ht.h he hoc)) (c v w ⟨ocs,by simpa using hoc.mono fun b _ hb=>Or.inl hb,by simpa using hoe⟩ (ay _ _) (.inl rfl) (Cb (P:=P) (w:=w) t ty e ht.h he hoc))
 ·let news:=(cur.toList.drop off).take (ys.length*sz);have hnl:news.length=ys.length*sz:=by simp [news];omega
  have hnc: ∀j u,news[j]? =some u->w.cell? ((⟨b,off,none⟩:Addr).add j)=some u:=by
   intro j q hq;rw [addr_add];simp only [World.cell?,hh];simp only [news,aaQ,ad6] at hq;split at hq
   ·simpa using hq
   ·cases hq
  have hne: ∀(i:Nat) (y:α),ys[i]? =some y->R (fun b=>Pe b/\v.ownBlock≠some b) w y ((news.drop (i*sz)).take sz):=by
   intro i y hy;have hi:i<ys.length:=(List.getElem?_eq_some_iff.1 hy).1;have hle:(i+1)*sz<=ys.length*sz:=aaw _ hi;rw [aaR] at hle;have e1:(news.drop (i*sz)).take sz=(cur.toList.drop (off+i*sz)).take sz:=by simp only [news];rw [anE,anr,anh (by omega),aoa]
   rw [e1];exact hp _ _ (h4 i y hy)
  have h1c: ∀u∈news,u.oneCell'=true:=by intro q hq;obtain ⟨j,hj,rfl⟩:=aoh hq;rw [hnl] at hj;have hjs:j / sz<ys.length:=Nat.div_lt_of_lt_mul (by rw [anZ];exact hj);have h5:=hne (j / sz) ys[j / sz] (anv hjs);have hle:(j / sz+1)*sz<=ys.length*sz:=aaw _ hjs;rw [aaR] at hle;refine hR.oc _ _ _ _ h5 (by simp;omega) _ ?_;have hm:j % sz<sz:=Nat.mod_lt _ hsz;have hdm:=Nat.div_add_mod j sz;rw [anZ] at hdm;refine List.mem_iff_getElem?.2 ⟨j % sz,?_⟩;rw [aaQ,if_pos hm,ad6,hdm,anv]
  obtain ⟨v',w',hr,g2,g3,g4⟩:=zx (P:=P) (w:=w) t ty e ht.h he hsz hoc ⟨b,off,none⟩ ys.length cap news hnl hnc h1c h63 hby;refine Wl.val (run _ _ hr) (c v' w' ⟨ocs++news,?_,zy hR hoc.1 hoe hne g3 g4⟩ g3 g4 hr);rw [am7];exact g2
theorem jg {t e:TypeId} {sz bytes:Nat} {agg:Bool} {z:Value} [ht:Und P t (.slice e)] [he:ElT P e sz bytes agg z]
 (c: ∀v w',nP R e sz (fun b=>w.heap.size<=b) Pe w' v []->New w w'->Wl P n ds Q ops rest (upd F d v) w'):
 Wl P n ds Q ops (⟨some d,.buildSlice t 0 #[],ty,pos,aft,none⟩::rest) F w:=by
 have r:(Instr.buildSlice t 0 #[]).run P w=.ok (.slice (some ⟨w.heap.size,0,none⟩) 0 0) (w.alloc (.cells #[] e)):=by simp [Instr.buildSlice,run_underlying ht.h,he.sizeOf,Instr.fill,newRow,Array.range_zero']
 refine Wl.val (w':=w.alloc (.cells #[] e)) (v:=.slice (some ⟨w.heap.size,0,none⟩) 0 0) (by simp only [execOp,am9,anc,Sem.run_bind,r,Result.andThen_ok,Sem.run_pure]) (c _ _ ⟨[],⟨by simp,.inr ⟨w.heap.size,0, #[],rfl,aap _,heap_alloc_new w _,aap _,by unfold maxLen;omega,by simp,by simp⟩⟩,fun i x hx=>by simp at hx⟩ (Chg.alloc _ _ _))
theorem jh {x y:Operand} {t e:TypeId} {sz bytes:Nat} {agg:Bool} {z:Value} {kl kc:IntKind} {c:Int}
 [ht:Und P t (.slice e)] [he:ElT P e sz bytes agg z] (hx:ev n F x=.int kl 0) (hy:ev n F y=.int kc c) (h0:0<=c) (hby:bytes*c.toNat<=281474976710656) (h63:c<=9223372036854775807)
 (c: ∀v w',nP R e sz (fun b=>w.heap.size<=b) Pe w' v []->New w w'->Wl P n ds Q ops rest (upd F d v) w'):
 Wl P n ds Q ops (⟨some d,.makeSlice t x y,ty,pos,aft,none⟩::rest) F w:=by
 obtain ⟨m,rfl⟩:=ane h0;obtain ⟨i,hi,hsz',Qg,hz'⟩:=he.inf;rw [ant] at hby;have hb':(i.bytes:Int)*(m:Int)<=281474976710656:=by
  have h:((i.bytes*m:Nat):Int)<=281474976710656:=by rw [Qg];omega
  rwa [aoi] at h
 have hr:=run_make (P:=P) w t e i z ht.h hi hz' kl kc 0 m (aoj _) (by omega) hb' h63;simp only [Int.toNat_zero,ant] at hr;refine Wl.val (v:=.slice (some ⟨w.heap.size,0,none⟩) 0 m) (w':=w.alloc (.cells (madeCells z.cells (m*i.size)) e)) ?_ (c _ _ ⟨[],⟨by simp,.inr ⟨w.heap.size,m,_,rfl,aap _,heap_alloc_new w _,anq _,by unfold maxLen;omega,?_,by simp⟩⟩,fun i x hx=>by simp at hx⟩ (Chg.alloc _ _ _))
 ·simp only [execOp,hx,hy,Sem.run_bind,hr,Result.andThen_ok,Sem.run_pure]
 ·rw [size_madeCells,hsz']
theorem eY {f:α->Value} {y0:α} {x y:Operand} {t e:TypeId} {bytes:Nat} {agg:Bool} {z:Value} {kl kc:IntKind} {c:Int}
 [ht:Und P t (.slice e)] [he:ElT P e 1 bytes agg z] (hz0:z.cells= #[f y0]) (hx:ev n F x=.int kl c) (hy:ev n F y=.int kc c) (h0:0<=c) (hby:bytes*c.toNat<=281474976710656) (h63:c<=9223372036854775807)
 (c: ∀v w',nP (Wk.one f) e 1 (fun b=>w.heap.size<=b) Pe w' v (aok c.toNat y0)->New w w'->Wl P n ds Q ops rest (upd F d v) w'):
 Wl P n ds Q ops (⟨some d,.makeSlice t x y,ty,pos,aft,none⟩::rest) F w:=by
 obtain ⟨m,rfl⟩:=ane h0;obtain ⟨i,hi,hsz',Qg,hz'⟩:=he.inf;rw [ant] at*;have hb':(i.bytes:Int)*(m:Int)<=281474976710656:=by
  have h:((i.bytes*m:Nat):Int)<=281474976710656:=by rw [Qg];omega
  rwa [aoi] at h
 have hr:=run_make (P:=P) w t e i z ht.h hi hz' kl kc m m (by omega) (aoj _) hb' h63;simp only [ant,hsz',anx,hz0] at hr;refine Wl.val (v:=.slice (some ⟨w.heap.size,0,none⟩) m m) (w':=w.alloc (.cells (madeCells #[f y0] m) e)) ?_ (c _ _ ⟨aok m (f y0),⟨by simp,.inr ⟨w.heap.size,m,madeCells #[f y0] m,by simp,aap _,heap_alloc_new w _,by simp,by unfold maxLen;omega,by rw [size_madeCells];simp,?_⟩⟩,fun i x hx=>?_⟩ (Chg.alloc _ _ _))
 ·simp only [execOp,hx,hy,Sem.run_bind,hr,Result.andThen_ok,Sem.run_pure]
 ·rw [toList_madeCells_one];simp
 have hi2:i<m:=by have:=(List.getElem?_eq_some_iff.1 hx).1;simpa using this
 rw [List.getElem?_replicate,if_pos hi2] at hx;cases hx;simp only [one,anx,List.drop_replicate,List.take_replicate];rw [anh (by omega)];rfl
theorem Qh {e:TypeId} {bytes:Nat} {z u:Value} {agg:Bool} {m:Nat} {cs:List Value} {v:Value} (he:ElT P e 1 bytes agg z) (hoc:uH Pb w e 1 v m cs) {g cap:Nat} (hv:v=.slice (some ⟨g,0,none⟩) m cap) {j:Nat} (hj:j<m) (hu:u.oneCell'=true) (huc:u.cells= #[u]):
 ∃w',(Instr.storeAt e (.pointer (some ⟨g,j,none⟩)) u).run P w=.ok () w'/\uH Pb w' e 1 v m (cs.set j u)/\Chg (fun b=>v.ownBlock=some b) w w':=by
 obtain ⟨hl,h⟩:=hoc;rcases h with ⟨rfl,_⟩|⟨g',cap',cur,rfl,hb,hg,h1,h2,h3,h4⟩
 ·cases hv
 ·cases hv;have hr:=run_storeCells_at P g j e [u] 0 cur w hg (by simp;omega) (by simpa using hu);have e1:(cur.toList.take j++ [u]++cur.toList.drop (j+1)).toArray=cur.setIfInBounds j u:=by apply anI;rw [aol,List.set_eq_take_append_cons_drop,if_pos (by simp;omega)];simp
  simp only [anN,anM,e1] at hr;refine ⟨w.setRow g (cur.setIfInBounds j u),?_,⟨by simpa using hl,.inr ⟨g,cap,cur.setIfInBounds j u,rfl,hb,setRow_heap w g cur _ e _ hg,h1,h2,by simpa using h3,?_⟩⟩,Chg.setRow rfl⟩
  ·simp only [Instr.storeAt,Instr.sureAddr,storeVar,Sem.run_bind,Sem.run_pure,Result.andThen_ok,he.sizeOf,huc];simpa using hr
  ·rw [aol, <-h4,List.take_set]
theorem nP.set1 {f:α->Value} {e:TypeId} {v:Value} {xs:List α} {m:Nat} {cs:List Value} (hm:m=xs.length) (hoc:uH Pb w e 1 v m cs) (he: ∀(i:Nat) (x:α),xs[i]? =some x->Wk.one f (fun b=>Pe b/\v.ownBlock≠some b) w x ((cs.drop (i*1)).take 1)) (j:Nat) (y:α)
 (KP:uH Pb w' e 1 v m (cs.set j (f y))):nP (Wk.one f) e 1 Pb Pe w' v (xs.set j y):=by
 subst hm;refine ⟨cs.set j (f y),by simpa using KP,fun i x hx=>?_⟩;have hl:cs.length=xs.length:=by simpa using hoc.1
 simp only [one,anx] at he ⊢;have hi:i<xs.length:=by have:=(List.getElem?_eq_some_iff.1 hx).1;simpa using this
 have hi2:i<(cs.set j (f y)).length:=by simp;omega
 rw [anF hi2];simp only [an0,an1,List.cons.injEq,and_true,List.getElem_set];rw [anO] at hx;split
 ·rename_i e;subst e;rw [if_pos rfl] at hx;simp only [hi,if_true] at hx;cases hx;rfl
 ·rename_i hne
  rw [if_neg hne] at hx;have:=he i x hx;rw [anF (show i<cs.length by omega),an0,an1] at this;exact (List.cons.inj this).1
end
def Wq (P:Program) (n:Nat) (ds:List Deferred) (C:World->Prop) (K:Fr->Prop) (ops:List Oper) (l:List Oper) (F:Fr):Prop:=
 wpQuiet P ops.toArray C (fun a=> ∃F',a=act n ds F'/\K F') l (act n ds F)
section
variable {P:Program} {n:Nat} {ds:List Deferred} {C:World->Prop} {K:Fr->Prop} {F:Fr} {ops rest:List Oper} {d d1 d2:Nat} {ty ty1 ty2:TypeId} {pos pos1 pos2:String} {aft Hl Ho:Array Edge}
theorem af (h:K F):Wq P n ds C K ops [] F:=⟨F,rfl,h⟩
theorem Wq.val {op:Op} {v:Value} (hr: ∀w,C w->(execOp (ev n F) ⟨some d,op,ty,pos,aft,none⟩).run P w=.ok (.value v) w)
 (k:Wq P n ds C K ops rest (upd F d v)):Wq P n ds C K ops (⟨some d,op,ty,pos,aft,none⟩::rest) F:=by
 refine wpQuiet_step fun K' hK=>?_;rw [if_pos (by simp [Region.wanted])];refine ⟨v,fun w hw=>?_,?_⟩
 ·unfold Oper.quietAt;rw [wY,hr w hw];exact ⟨rfl,rfl⟩
 ·rw [xU];exact hK _ k
theorem aW {o:Oper} {j:Nat} {b:Bool} (hg:o.guard=some (j,b)) (hy:yld ops n F j=some b)
 (k:Wq P n ds C K ops ({o with guard:=none}::rest) F):Wq P n ds C K ops (o::rest) F:=by
 have hw:Region.wanted o (yielded ops.toArray (act n ds F).tmps)=true:=by simp only [Region.wanted,hg,act,vK,hy];simp
 have hw2:Region.wanted {o with guard:=none} (yielded ops.toArray (act n ds F).tmps)=true:=rfl;unfold Wq wpQuiet at k ⊢;rw [if_pos hw];rw [if_pos hw2] at k;exact k
theorem fE {op:Op} {j:Nat} {b c:Bool} (hy:yld ops n F j=some c) (hbc:(c == b)=false)
 (k:Wq P n ds C K ops rest (upd F d undef)):Wq P n ds C K ops (⟨some d,op,ty,pos,aft,some (j,b)⟩::rest) F:=by
 have hw:Region.wanted ⟨some d,op,ty,pos,aft,some (j,b)⟩ (yielded ops.toArray (act n ds F).tmps)=false:=by simp only [Region.wanted,act,vK,hy];simpa using hbc
 unfold Wq wpQuiet;rw [if_neg (by rw [hw];simp),xU];exact k
theorem Wq.call {args:List Operand} {ts:Array TypeId} {f:FuncId} {vs:List Value} {v:Value}
 [hc:nN P f] (h: ∀w,C w->Calls P f vs.toArray w (fun e w'=>e=.returned v/\C w')) (ha:args.map (ev n F)=vs) (k:Wq P n ds C K ops rest (upd F d v)):
 Wq P n ds C K ops (⟨some d,.call {callee:=.value (.func f),args:=args.toArray,argTypes:=ts},ty,pos,aft,none⟩::rest) F:=by
 refine wpQuiet_step fun K' hK=>?_;rw [if_pos (by simp [Region.wanted])];refine ⟨v,fun w hw=>?_,?_⟩
 ·unfold Oper.quietAt;have e:(execOp (ev n F) ⟨some d,.call {callee:=.value (.func f),args:=args.toArray,argTypes:=ts},ty,pos,aft,none⟩).run P w=.ok (.enter f vs.toArray) w:=by subst ha;simp only [execOp,resolve,ev,Deferred.ofValue,Sem.run_bind,Sem.run_pure,Result.andThen_ok,invoke,qF hc];congr 3;apply anI;simp
  rw [wY,e];exact ⟨rfl,h w hw⟩
 ·rw [xU];exact hK _ k
theorem kM {Q:Po} {w:World} {id:Nat} {l:List Oper} (C:World->Prop) (hm:P.follows .mixedOrders=true) (hB:Region.lexB .any l.toArray=true) (hC:C w.drew)
 (h:Wq P n ds C (fun F'=> ∀w',C w'->Q .normal F' w') l l F):Wc P n ds Q (.region id l.toArray true) F w:=by
 unfold Wc;refine wp_region_quiet (C:=C) hm hB hC ?_;have: ∀(l':List Oper) (a:Act),wpQuiet P l.toArray C (fun a=> ∃F',a=act n ds F'/\ ∀w',C w'->Q .normal F' w') l' a->wpQuiet P l.toArray C (fun a'=> ∀w',C w'->QA n ds Q .normal a' w') l' a:=by
  intro l';induction l' with
  |nil=>rintro a ⟨F',rfl,hk⟩ w' hw';exact ⟨F',rfl,hk w' hw'⟩
  |cons o r ih=>
   intro a ha;unfold wpQuiet at ha ⊢;split
   ·rename_i hw;rw [if_pos hw] at ha;exact Oper.quiet_mono ih ha
   ·rename_i hw;rw [if_neg hw] at ha;exact ih _ ha
 simpa using this l _ h
theorem fF {Q:Po} {w:World} {id:Nat} {l:List Oper} (hm:P.follows .mixedOrders=true) (hB:Region.lexB .any l.toArray=true)
 (h:Wq P n ds (New w) (fun F'=> ∀w',New w w'->Q .normal F' w') l l F):Wc P n ds Q (.region id l.toArray true) F w:=
 kM (New w) hm hB (Chg.drew _ _) h
theorem Wq.move {x:Operand} (k:Wq P n ds C K ops rest (upd F d (ev n F x))):Wq P n ds C K ops (⟨some d,.move x,ty,pos,aft,none⟩::rest) F:=
 Wq.val (fun w _=>by simp [execOp]) k
theorem kN {x:Operand} (k:Wq P n ds C K ops rest (upd F d (ev n F x))):Wq P n ds C K ops (⟨some d,.assign x,ty,pos,aft,none⟩::rest) F:=
 Wq.val (fun w _=>by simp [execOp]) k
theorem iO {x:Operand} {i:Nat} {l:List Value} {v:Value} (h:ev n F x=.tuple l.toArray) (hi:l[i]? =some v)
 (k:Wq P n ds C K ops rest (upd F d v)):Wq P n ds C K ops (⟨some d,.extract x i,ty,pos,aft,none⟩::rest) F:=
 Wq.val (fun w _=>by simp [execOp,h,Instr.extract,hi]) k
theorem Wq.VU {c a b:Operand} (h:ev n F c=.bool true) (k:Wq P n ds C K ops rest (upd F d (ev n F a))):Wq P n ds C K ops (⟨some d,.pick c a b,ty,pos,aft,none⟩::rest) F:=
 Wq.val (fun w _=>by simp [execOp,h,asBool]) k
theorem Wq.VW {c a b:Operand} (h:ev n F c=.bool false) (k:Wq P n ds C K ops rest (upd F d (ev n F b))):Wq P n ds C K ops (⟨some d,.pick c a b,ty,pos,aft,none⟩::rest) F:=
 Wq.val (fun w _=>by simp [execOp,h,asBool]) k
theorem Wq.VX {x:Operand} {v:Value} (h:ev n F x=v) (k:Wq P n ds C K ops rest (upd F d v)):Wq P n ds C K ops (⟨some d,.move x,ty,pos,aft,none⟩::rest) F:=
 Wq.move (h▸k)
theorem aa3 {x:Operand} {v:Value} (k:Wq P n ds C K ops rest (upd F d v)) (h:ev n F x=v:=by conv=>{lhs;whnf}):Wq P n ds C K ops (⟨some d,.move x,ty,pos,aft,none⟩::rest) F:=Wq.VX h k
theorem fA {x:Operand} {v:Value} (h:ev n F x=v) (k:Wq P n ds C K ops rest (upd F d v)):Wq P n ds C K ops (⟨some d,.assign x,ty,pos,aft,none⟩::rest) F:=
 kN (h▸k)
theorem kP {c a b:Operand} {v:Value} (h:ev n F c=.bool true) (h':ev n F a=v) (k:Wq P n ds C K ops rest (upd F d v)):Wq P n ds C K ops (⟨some d,.pick c a b,ty,pos,aft,none⟩::rest) F:=
 Wq.VU h (h'▸k)
theorem aa9 {c a b:Operand} {v:Value} (k:Wq P n ds C K ops rest (upd F d v)) (h:ev n F c=.bool true:=by exact rfl) (h':ev n F a=v:=by conv=>{lhs;whnf}):Wq P n ds C K ops (⟨some d,.pick c a b,ty,pos,aft,none⟩::rest) F:=kP h h' k
theorem kQ {c a b:Operand} {v:Value} (h:ev n F c=.bool false) (h':ev n F b=v) (k:Wq P n ds C K ops rest (upd F d v)):Wq P n ds C K ops (⟨some d,.pick c a b,ty,pos,aft,none⟩::rest) F:=
 Wq.VW h (h'▸k)
theorem yO {c a b:Operand} {v:Value} (k:Wq P n ds C K ops rest (upd F d v)) (h:ev n F c=.bool false:=by exact rfl) (h':ev n F b=v:=by conv=>{lhs;whnf}):Wq P n ds C K ops (⟨some d,.pick c a b,ty,pos,aft,none⟩::rest) F:=kQ h h' k
theorem dM {x:Operand} {t:TypeId} {b:Bool} (h:ev n F x=.bool b) (k:Wq P n ds C K ops rest (upd F d (.bool !b))):Wq P n ds C K ops (⟨some d,.unOp .not t x,ty,pos,aft,none⟩::rest) F:=
 Wq.val (fun w _=>by simp [execOp,h,Op.unary]) k
section cmp
variable {x y:Operand} {t t':TypeId} {a b:Int} {k:IntKind}
theorem fB {op:BinOp} {r:Bool} (hr:Op.intCmp op a b=pure (.bool r)) (hop:op≠ .add/\op≠ .sub/\op≠ .mul/\op≠ .quo/\op≠ .rem/\op≠ .and/\op≠ .or/\op≠ .xor/\op≠ .andNot/\op≠ .shl/\op≠ .shr) (hx:ev n F x=.int k a) (hy:ev n F y=.int k b)
 (c:Wq P n ds C K ops rest (upd F d (.bool r))):Wq P n ds C K ops (⟨some d,.binOp op t x y t',ty,pos,aft,none⟩::rest) F:=by
 refine Wq.val (fun w _=>?_) c;simp only [execOp,hx,hy,Sem.run_bind,pM,Result.andThen_ok];have:binOp op t (.int k a) (.int k b)=Op.intCmp op a b:=by cases op<;>simp_all [binOp]
 rw [this,hr];rfl
theorem dN (hx:ev n F x=.int k a) (hy:ev n F y=.int k b) (ht:a<b->Wq P n ds C K ops rest (upd F d (.bool true))) (hf:b<=a->Wq P n ds C K ops rest (upd F d (.bool false))):
 Wq P n ds C K ops (⟨some d,.binOp .lss t x y t',ty,pos,aft,none⟩::rest) F:=by
 by_cases h:a<b
 ·exact fB (r:=true) (by rw [show Op.intCmp .lss a b=pure (.bool (decide (a<b))) from rfl,decide_eq_true h]) (by simp) hx hy (ht h)
 ·exact fB (r:=false) (by rw [show Op.intCmp .lss a b=pure (.bool (decide (a<b))) from rfl,decide_eq_false h]) (by simp) hx hy (hf (Int.not_lt.1 h))
theorem fQ (hx:ev n F x=.int k a) (hy:ev n F y=.int k b) (ht:b<a->Wq P n ds C K ops rest (upd F d (.bool true))) (hf:a<=b->Wq P n ds C K ops rest (upd F d (.bool false))):
 Wq P n ds C K ops (⟨some d,.binOp .gtr t x y t',ty,pos,aft,none⟩::rest) F:=by
 by_cases h:b<a
 ·exact fB (r:=true) (by rw [show Op.intCmp .gtr a b=pure (.bool (decide (a>b))) from rfl,decide_eq_true h]) (by simp) hx hy (ht h)
 ·exact fB (r:=false) (by rw [show Op.intCmp .gtr a b=pure (.bool (decide (a>b))) from rfl,decide_eq_false h]) (by simp) hx hy (hf (Int.not_lt.1 h))
theorem iP (hx:ev n F x=.int k a) (hy:ev n F y=.int k b) (ht:b<=a->Wq P n ds C K ops rest (upd F d (.bool true))) (hf:a<b->Wq P n ds C K ops rest (upd F d (.bool false))):
 Wq P n ds C K ops (⟨some d,.binOp .geq t x y t',ty,pos,aft,none⟩::rest) F:=by
 by_cases h:b<=a
 ·exact fB (r:=true) (by rw [show Op.intCmp .geq a b=pure (.bool (decide (a≥b))) from rfl,decide_eq_true h]) (by simp) hx hy (ht h)
 ·exact fB (r:=false) (by rw [show Op.intCmp .geq a b=pure (.bool (decide (a≥b))) from rfl,decide_eq_false h]) (by simp) hx hy (hf (Int.not_le.1 h))
theorem gQ (hx:ev n F x=.int k a) (hy:ev n F y=.int k b) (ht:a=b->Wq P n ds C K ops rest (upd F d (.bool true))) (hf:a≠b->Wq P n ds C K ops rest (upd F d (.bool false))):
 Wq P n ds C K ops (⟨some d,.binOp .eql t x y t',ty,pos,aft,none⟩::rest) F:=by
 by_cases h:a=b
 ·exact fB (r:=true) (by rw [show Op.intCmp .eql a b=pure (.bool (a == b)) from rfl,show (a == b)=true from beq_iff_eq.2 h]) (by simp) hx hy (ht h)
 ·exact fB (r:=false) (by rw [show Op.intCmp .eql a b=pure (.bool (a == b)) from rfl,show (a == b)=false from beq_eq_false_iff_ne.2 h]) (by simp) hx hy (hf h)
theorem Wq.neq (hx:ev n F x=.int k a) (hy:ev n F y=.int k b) (ht:a≠b->Wq P n ds C K ops rest (upd F d (.bool true))) (hf:a=b->Wq P n ds C K ops rest (upd F d (.bool false))):
 Wq P n ds C K ops (⟨some d,.binOp .neq t x y t',ty,pos,aft,none⟩::rest) F:=by
 by_cases h:a=b
 ·exact fB (r:=false) (by rw [show Op.intCmp .neq a b=pure (.bool (a != b)) from rfl,show (a != b)=false from by simpa using h]) (by simp) hx hy (hf h)
 ·exact fB (r:=true) (by rw [show Op.intCmp .neq a b=pure (.bool (a != b)) from rfl,show (a != b)=true from by simpa using h]) (by simp) hx hy (ht h)
end cmp
section arith
variable {x y:Operand} {t t':TypeId} {a b:Int} {k:IntKind}
theorem Wq.add (hx:ev n F x=.int .i64 a) (hy:ev n F y=.int .i64 b) (h0: -9223372036854775808<=a+b) (h1:a+b<=9223372036854775807)
 (c:Wq P n ds C K ops rest (upd F d (.int .i64 (a+b)))):Wq P n ds C K ops (⟨some d,.binOp .add t x y t',ty,pos,aft,none⟩::rest) F:=
 Wq.val (fun w _=>by simp [execOp,hx,hy,pM,binOp,Op.intArith,yP h0 h1]) c
theorem Wq.sub (hx:ev n F x=.int .i64 a) (hy:ev n F y=.int .i64 b) (h0: -9223372036854775808<=a-b) (h1:a-b<=9223372036854775807)
 (c:Wq P n ds C K ops rest (upd F d (.int .i64 (a-b)))):Wq P n ds C K ops (⟨some d,.binOp .sub t x y t',ty,pos,aft,none⟩::rest) F:=
 Wq.val (fun w _=>by simp [execOp,hx,hy,pM,binOp,Op.intArith,yP h0 h1]) c
end arith
theorem Wq.vJ {x:Operand} {t e:TypeId} {a:Option Addr} {l cap:Nat} [ht:Und P t (.slice e)] (hx:ev n F x=.slice a l cap)
 (c:Wq P n ds C K ops rest (upd F d (vi l))):Wq P n ds C K ops (⟨some d,.call {callee:=.builtin .len,args:= #[x],argTypes:= #[t]},ty,pos,aft,none⟩::rest) F:=
 Wq.val (fun w _=>by simp only [execOp,resolve,Sem.run_bind,Sem.run_pure,Result.andThen_ok,invoke,builtin,am9,acd,anc,hx,NC ht.h]) c
end
attribute [irreducible] Wq
def Bk (w:World) (b:Nat) (T:TypeId) (cs:List Value):Prop:=w.heap[b]? =some (.cells cs.toArray T (0,0))
section
variable {w w':World} {b:Nat} {T:TypeId} {cs:List Value} {M Pb:Nat->Prop}
theorem Bk.lt (h:Bk w b T cs):b<w.heap.size:=uT h
theorem Bk.keep (h:Bk w b T cs) (hk:Keep Pb w w') (hb:Pb b):Bk w' b T cs:=(hk b hb h.lt).trans h
theorem Bk.chg (h:Bk w b T cs) (hc:Chg M w w') (hb: ¬M b):Bk w' b T cs:=(hc.block b h.lt hb).trans h
theorem Bk.cell (h:Bk w b T cs) {o:Nat} {u:Value} (hu:cs[o]? =some u):w.cell? ⟨b,o,none⟩=some u:=by
 unfold Bk at h;simp only [World.cell?,h];simpa using hu
theorem Bk.frozen (h:Bk w b T cs) (o:Nat):w.frozen? ⟨b,o,none⟩=false:=by
 unfold Bk at h;simp only [World.frozen?,h];simp
theorem Bk.store (h:Bk w b T cs) (o:Nat) (u:Value):Bk (w.setCell ⟨b,o,none⟩ u) b T (cs.set o u):=by
 unfold Bk at h ⊢;rw [heap_setCell_same w b o _ T u h];simp
theorem Chg.store (b o:Nat) (u:Value):Chg (fun k=>k=b) w (w.setCell ⟨b,o,none⟩ u):=
 ⟨rfl,rfl,rfl,by simp [World.setCell],fun k _ hn=>heap_setCell_other w ⟨b,o,none⟩ k u hn⟩
end
section
variable {P:Program} {n:Nat} {ds:List Deferred} {Q:Po} {F:Fr} {w w':World} {ops rest:List Oper} {d d1 d2:Nat} {ty ty1 ty2:TypeId} {pos pos1 pos2:String} {aft Hl Ho:Array Edge}
theorem iJ {x:Operand} {a:Addr} (hx:ev n F x=.pointer (some a)) (c:Wl P n ds Q ops rest (upd F d (.pointer (some a))) w):
 Wl P n ds Q ops (⟨some d,.nilCheck x,ty,pos,aft,none⟩::rest) F w:=
 Wl.val (by simp only [execOp,hx,Sem.run_pure]) c
theorem FV {T i off fty:Nat} {sz bytes:Nat} {agg:Bool} {z:Value} {b o:Nat} (hf:Fld P T i off fty) (he:ElT P fty sz bytes agg z) (hz:sz≠0):
 (Instr.fieldAt T (.pointer (some ⟨b,o,none⟩)) i).run P w=.ok (.pointer (some ⟨b,o+off,none⟩)) w:=by
 obtain ⟨fs,f,h1,h2,rfl,rfl⟩:=hf.ex;simp [Instr.fieldAt,run_underlying h1,h2,Instr.sureAddr,fieldPlace,he.sizeOf,hz,addr_add]
theorem kR {x:Operand} {T i off fty:Nat} {sz bytes:Nat} {agg:Bool} {z:Value} {b o:Nat} [hf:Fld P T i off fty] [he:ElT P fty sz bytes agg z] (hx:ev n F x=.pointer (some ⟨b,o,none⟩)) (hz:ank sz 0=false)
 (c:Wl P n ds Q ops rest (upd F d (.pointer (some ⟨b,o+off,none⟩))) w):Wl P n ds Q ops (⟨some d,.fieldAddr T x i,ty,pos,aft,none⟩::rest) F w:=
 Wl.val (by simp only [execOp,hx,Sem.run_bind,FV hf he (anA hz),Result.andThen_ok,Sem.run_pure]) c
theorem aa5 {x:Operand} {T i off fty:Nat} {sz bytes:Nat} {agg:Bool} {z:Value} {b o:Nat} [hf:Fld P T i off fty] [he:ElT P fty sz bytes agg z] (c:Wl P n ds Q ops rest (upd F d (.pointer (some ⟨b,o+off,none⟩))) w) (hx:ev n F x=.pointer (some ⟨b,o,none⟩):=by exact rfl) (hz:ank sz 0=false:=by exact rfl):Wl P n ds Q ops (⟨some d,.fieldAddr T x i,ty,pos,aft,none⟩::rest) F w:=kR hx hz c
theorem ah {x:Operand} {e bytes:Nat} {z u:Value} {b o:Nat} [he:ElT P e 1 bytes false z] (hx:ev n F x=.pointer (some ⟨b,o,none⟩)) (hc:w.cell? ⟨b,o,none⟩=some u)
 (c:Wl P n ds Q ops rest (upd F d u) w):Wl P n ds Q ops (⟨some d,.load e x,ty,pos,aft,none⟩::rest) F w:=
 Wl.val (by simp only [execOp,hx,Sem.run_bind,JO he hc,Result.andThen_ok,Sem.run_pure]) c
theorem Qi {e bytes:Nat} {agg:Bool} {z u:Value} {b o:Nat} {T:TypeId} {cs:List Value} (he:ElT P e 1 bytes agg z) (h:Bk w b T cs) (ho:o<cs.length) (hu:u.oneCell'=true):
 (Instr.storeAt e (.pointer (some ⟨b,o,none⟩)) u).run P w=.ok () (w.setCell ⟨b,o,none⟩ u):=by
 have huc:u.cells= #[u]:=by cases u<;>simp_all [Value.cells,Value.oneCell']
 simp only [Instr.storeAt,Instr.sureAddr,storeVar,Sem.run_bind,Sem.run_pure,Result.andThen_ok,he.sizeOf,huc];simp [storeCells,run_store P w _ _ _ hu,addr_add,h.cell (anv ho),h.frozen]
theorem aJ {x y:Operand} {e bytes:Nat} {agg:Bool} {z u:Value} {b o:Nat} {T:TypeId} {cs:List Value} [he:ElT P e 1 bytes agg z] (h:Bk w b T cs) (hx:ev n F x=.pointer (some ⟨b,o,none⟩)) (ho:o<cs.length) (hy:ev n F y=u) (hu:u.oneCell'=true)
 (c: ∀w',Bk w' b T (cs.set o u)->Chg (fun k=>k=b) w w'->Wl P n ds Q ops rest F w'):Wl P n ds Q ops (⟨none,.store e x y,ty,pos,aft,none⟩::rest) F w:=
 fO (by simp only [execOp,hx,hy,Sem.run_bind,Qi he h ho hu,Result.andThen_ok,Sem.run_pure]) (c _ (h.store o u) (Chg.store b o u))
theorem Wl.alloc {e sz bytes:Nat} {agg:Bool} {z:Value} [he:ElT P e sz bytes agg z] (c: ∀w',Bk w' w.heap.size e z.cells.toList->New w w'->w'.heap.size=w.heap.size+1->Wl P n ds Q ops rest (upd F d (.pointer (some ⟨w.heap.size,0,none⟩))) w'):
 Wl P n ds Q ops (⟨some d,.alloc e,ty,pos,aft,none⟩::rest) F w:=by
 refine Wl.val (w':=w.alloc (.cells z.cells e)) ?_ (c _ (by simpa [Bk] using heap_alloc_new w (.cells z.cells e)) (Chg.alloc _ _ _) (by simp));simp [execOp,Instr.alloc,he.zeroValue,newVar,newRow]
theorem Wl.box {x:Operand} {e:TypeId} {u:Value} (hx:ev n F x=u) (c: ∀w',Bk w' w.heap.size e u.cells.toList->New w w'->w'.heap.size=w.heap.size+1->Wl P n ds Q ops rest (upd F d (.pointer (some ⟨w.heap.size,0,none⟩))) w'):
 Wl P n ds Q ops (⟨some d,.box e x,ty,pos,aft,none⟩::rest) F w:=by
 refine Wl.val (w':=w.alloc (.cells u.cells e)) ?_ (c _ (by simpa [Bk] using heap_alloc_new w (.cells u.cells e)) (Chg.alloc _ _ _) (by simp));simp [execOp,Instr.box,hx,newVar,newRow]
theorem FW {t e:TypeId} (h:P.underlying t=some (.pointer e)):P.underlying t=some (.pointer (P.pointee t)):=by simp [Program.pointee,h]
theorem Ae {op:BinOp} {t:TypeId} {x y:Operand} {a b:Option Addr}:(eqGuard op t x y (.pointer a) (.pointer b)).run P w=.ok () w:=by
 unfold eqGuard;split<;>simp
theorem fG {x y:Operand} {t t' e:TypeId} {a:Option Addr} [ht:Und P t (.pointer e)] (hx:ev n F x=.pointer a) (hy:ev n F y=.pointer none) (c:Wl P n ds Q ops rest (upd F d (.bool a.isNone)) w):
 Wl P n ds Q ops (⟨some d,.binOp .eql t x y t',ty,pos,aft,none⟩::rest) F w:=by
 refine Wl.val ?_ c;simp only [execOp,hx,hy,Sem.run_bind,Ae,Result.andThen_ok,run_eql_pointer_nil w t a (FW ht.h),Sem.run_pure]
theorem ji {x y:Operand} {t t' e:TypeId} {a:Option Addr} [ht:Und P t (.pointer e)] (hx:ev n F x=.pointer a) (hy:ev n F y=.pointer none) (c:Wl P n ds Q ops rest (upd F d (.bool !a.isNone)) w):
 Wl P n ds Q ops (⟨some d,.binOp .neq t x y t',ty,pos,aft,none⟩::rest) F w:=by
 refine Wl.val ?_ c;simp only [execOp,hx,hy,Sem.run_bind,Ae,Result.andThen_ok,run_neq_pointer_nil w t a (FW ht.h),Sem.run_pure]
theorem aZ {α:Type} {f:α->Value} {Pb:Nat->Prop} {xs:List α} {x i:Operand} {t e bytes:Nat} {z v:Value} {k:IntKind} {j:Int} {y:α}
 [ht:Und P t (.slice e)] [he:ElT P e 1 bytes false z] (h:RdS (Wk.one f) 1 Pb w v xs) (hx:ev n F x=v) (hi:ev n F i=.int k j) (h0:0<=j) (hy:xs[j.toNat]? =some y)
 (c: ∀b o,w.cell? ⟨b,o,none⟩=some (f y)->Wl P n ds Q ops rest (upd F d (.pointer (some ⟨b,o,none⟩))) w):
 Wl P n ds Q ops (⟨some d,.indexAddr t x i,ty,pos,aft,none⟩::rest) F w:=by
 obtain ⟨b,off,cap,rfl,hlt,cs,hl,hR,hc⟩:=h.cells hy;have hc0:=hc 0 (f y) (by rw [hR];rfl);refine Wl.val (w':=w) (v:=.pointer (some ((⟨b,off,none⟩:Addr).add (j.toNat*1)))) ?_ ?_
 ·simp only [execOp,hx,hi,Sem.run_bind,run_indexAt ht.h he h0 (by omega:j<xs.length),Result.andThen_ok,Sem.run_pure]
 ·rw [addr_add];exact c _ _ (by simpa using hc0)
theorem Af {isS:Bool} {l cap:Nat} {lo hi:Option Value} {a b:Nat} (hlo:lo=none/\a=0∨ ∃k,lo=some (.int k a)) (hhi:hi=none/\b=l∨ ∃k,hi=some (.int k b)) (hab:a<=b) (hb:b<=cap):
 (Instr.sliceBounds isS l cap lo hi none).run P w=.ok (a,b,cap) w:=by
 have h1: ∀(k:IntKind) (m:Nat) (c:BoundsCode) (q:Nat),q<=m->(Instr.sliceBound (.int k (q:Int)) m c).run P w=.ok q w:=by
  intro k m c q hq;have:(0:Int)<=q/\(q:Int)<=m:=by omega
  simp [Instr.sliceBound,asIntOf,hq]
 rcases hlo with ⟨rfl,rfl⟩|⟨k,rfl⟩<;>rcases hhi with ⟨rfl,rfl⟩|⟨k',rfl⟩<;>simp [Instr.sliceBounds,h1,hab,hb]
theorem uI {t e:TypeId} {sz bytes:Nat} {agg:Bool} {z:Value} {p:Option Addr} {l cap:Nat} {lo hi:Option Value} {a b:Nat} (ht:P.underlying t=some (.slice e)) (he:ElT P e sz bytes agg z)
 (hlo:lo=none/\a=0∨ ∃k,lo=some (.int k a)) (hhi:hi=none/\b=l∨ ∃k,hi=some (.int k b)) (hab:a<=b) (hb:b<=cap):
 (Instr.sliceAt t (.slice p l cap) lo hi none).run P w=.ok (.slice (if cap=a then p else p.map (·.add (a*sz))) (b-a) (cap-a)) w:=by
 simp only [Instr.sliceAt,Sem.run_bind,run_underlying ht,Result.andThen_ok,Instr.slice,Af hlo hhi hab hb,he.sizeOf,Sem.run_pure]
theorem RdS.sub {α:Type} {R:Rel α} {sz:Nat} {Pb:Nat->Prop} {w:World} {p:Option Addr} {l cap:Nat} {xs:List α} (h:RdS R sz Pb w (.slice p l cap) xs) {a b:Nat} (hab:a<=b) (hb:b<=xs.length):
 RdS R sz Pb w (.slice (if cap=a then p else p.map (·.add (a*sz))) (b-a) (cap-a)) ((xs.take b).drop a):=by
 have h1:=h.take hb rfl;cases p with
 |none=>
  rcases h with ⟨e,rfl⟩|⟨_,_,e,_⟩|⟨_,_,_,_,_,_,e,_⟩
  ·cases e;simp only [an8,Nat.le_zero_eq] at hb;subst hb;obtain rfl:a=0:=by omega
   exact .inl ⟨by simp,by simp⟩
  ·cases e
  ·cases e
 |some q=>
  have hl:(xs.take b).length=b:=by simp;omega
  have:=h1.drop (m:=a) (by omega) rfl (if cap=a then q else q.add (a*sz)) (by
   split
   ·rename_i e;exact .inr ⟨e.symm,rfl⟩
   ·exact .inl rfl)
  have e:(if cap=a then some q else aom (fun x=>x.add (a*sz)) (some q))=some (if cap=a then q else q.add (a*sz)):=by split<;>rfl
  rw [e];exact this
section
variable {α:Type} {R:Rel α} {Pb:Nat->Prop} {xs:List α} {x lo hi:Operand} {t e:TypeId} {sz bytes:Nat} {agg:Bool} {z v:Value} {k k':IntKind} {a b:Int}
theorem kS [ht:Und P t (.slice e)] [he:ElT P e sz bytes agg z] (h:RdS R sz Pb w v xs) (hx:ev n F x=v) (hh:ev n F hi=.int k b) (h0:0<=b) (h1:b<=xs.length)
 (c: ∀v',RdS R sz Pb w v' (xs.take b.toNat)->Wl P n ds Q ops rest (upd F d v') w):Wl P n ds Q ops (⟨some d,.slice t x none (some hi) none,ty,pos,aft,none⟩::rest) F w:=by
 obtain ⟨p,cap,rfl,hc,_⟩:=h.form;obtain ⟨b,rfl⟩:=ane h0;have:=uI (P:=P) (w:=w) (p:=p) (l:=xs.length) (lo:=none) (hi:=some (.int k b)) (a:=0) (b:=b) ht.h he (.inl ⟨rfl,rfl⟩) (.inr ⟨k,rfl⟩) (anq _) (by omega:b<=cap);have hr:=h.sub (a:=0) (b:=b) (anq _) (by omega);rw [anK] at hr;refine Wl.val (w':=w) ?_ (c _ hr);simp only [execOp,hx,hh,ani,am6,Sem.run_bind,this,Result.andThen_ok,Sem.run_pure]
theorem jI [ht:Und P t (.slice e)] [he:ElT P e sz bytes agg z] (h:RdS R sz Pb w v xs) (hx:ev n F x=v) (hl:ev n F lo=.int k a) (h0:0<=a) (h1:a<=xs.length)
 (c: ∀v',RdS R sz Pb w v' (xs.drop a.toNat)->Wl P n ds Q ops rest (upd F d v') w):Wl P n ds Q ops (⟨some d,.slice t x (some lo) none none,ty,pos,aft,none⟩::rest) F w:=by
 obtain ⟨p,cap,rfl,hc,_⟩:=h.form;obtain ⟨a,rfl⟩:=ane h0;have:=uI (P:=P) (w:=w) (p:=p) (l:=xs.length) (lo:=some (.int k a)) (hi:=none) (a:=a) (b:=xs.length) ht.h he (.inr ⟨k,rfl⟩) (.inl ⟨rfl,rfl⟩) (by omega) (by omega:xs.length<=cap);refine Wl.val (w':=w) ?_ (c _ (by simpa using h.sub (a:=a) (b:=xs.length) (by omega) (aap _)));simp only [execOp,hx,hl,ani,am6,Sem.run_bind,this,Result.andThen_ok,Sem.run_pure]
theorem kT [ht:Und P t (.slice e)] [he:ElT P e sz bytes agg z] (h:RdS R sz Pb w v xs) (hx:ev n F x=v) (hl:ev n F lo=.int k a) (hh:ev n F hi=.int k' b) (h0:0<=a) (h1:a<=b) (h2:b<=xs.length)
 (c: ∀v',RdS R sz Pb w v' ((xs.take b.toNat).drop a.toNat)->Wl P n ds Q ops rest (upd F d v') w):Wl P n ds Q ops (⟨some d,.slice t x (some lo) (some hi) none,ty,pos,aft,none⟩::rest) F w:=by
 obtain ⟨p,cap,rfl,hc,_⟩:=h.form;obtain ⟨a,rfl⟩:=ane h0;obtain ⟨b,rfl⟩:=ane (Int.le_trans h0 h1);have:=uI (P:=P) (w:=w) (p:=p) (l:=xs.length) (lo:=some (.int k a)) (hi:=some (.int k' b)) (a:=a) (b:=b) ht.h he (.inr ⟨k,rfl⟩) (.inr ⟨k',rfl⟩) (by omega) (by omega:b<=cap);refine Wl.val (w':=w) ?_ (c _ (by simpa using h.sub (a:=a) (b:=b) (by omega) (by omega)));simp only [execOp,hx,hl,hh,ani,am6,Sem.run_bind,this,Result.andThen_ok,Sem.run_pure]
end
section
variable {x lo hi:Operand} {t:TypeId} {k k':IntKind} {a b:Int} {l:List UInt8}
theorem zA {lo hi:Option Value} {a b:Nat} (ht:P.underlying t=some .string) (hlo:lo=none/\a=0∨ ∃k,lo=some (.int k a)) (hhi:hi=none/\b=l.length∨ ∃k,hi=some (.int k b)) (hab:a<=b) (hb:b<=l.length):
 (Instr.sliceAt t (vs l) lo hi none).run P w=.ok (vs ((l.take b).drop a)) w:=by
 have hs:(⟨l.toArray⟩:ByteArray).size=l.length:=by simp [ByteArray.size]
 simp only [Instr.sliceAt,Sem.run_bind,run_underlying ht,Result.andThen_ok,Instr.slice,hs,Af hlo hhi hab hb,Option.isSome_none,anP,if_false,Sem.run_pure];rw [ByteArray.extract_mk,anE]
theorem jJ [ht:Und P t .string] (hx:ev n F x=vs l) (hh:ev n F hi=.int k b) (h0:0<=b) (h1:b<=l.length)
 (c:Wl P n ds Q ops rest (upd F d (vs (l.take b.toNat))) w):Wl P n ds Q ops (⟨some d,.slice t x none (some hi) none,ty,pos,aft,none⟩::rest) F w:=by
 obtain ⟨b,rfl⟩:=ane h0;have:=zA (P:=P) (w:=w) (l:=l) (lo:=none) (hi:=some (.int k b)) (a:=0) (b:=b) ht.h (.inl ⟨rfl,rfl⟩) (.inr ⟨k,rfl⟩) (anq _) (by omega);refine Wl.val (w':=w) ?_ c;simp only [execOp,hx,hh,ani,am6,Sem.run_bind,this,Result.andThen_ok,Sem.run_pure,anK,ant]
theorem jK [ht:Und P t .string] (hx:ev n F x=vs l) (hl:ev n F lo=.int k a) (h0:0<=a) (h1:a<=l.length)
 (c:Wl P n ds Q ops rest (upd F d (vs (l.drop a.toNat))) w):Wl P n ds Q ops (⟨some d,.slice t x (some lo) none none,ty,pos,aft,none⟩::rest) F w:=by
 obtain ⟨a,rfl⟩:=ane h0;have:=zA (P:=P) (w:=w) (l:=l) (lo:=some (.int k a)) (hi:=none) (a:=a) (b:=l.length) ht.h (.inr ⟨k,rfl⟩) (.inl ⟨rfl,rfl⟩) (by omega) (aap _);refine Wl.val (w':=w) ?_ c;simp only [execOp,hx,hl,ani,am6,Sem.run_bind,this,Result.andThen_ok,Sem.run_pure,aon,ant]
end
end
abbrev by8:UInt8->Value:=fun b=>.int .u8 b.toNat
theorem iC {α:Type} {f:α->Value} {e:TypeId} {Pb Pe:Nat->Prop} {w:World} {v:Value} {xs:List α} {m:Nat} (hm:m=xs.length) (h:uH Pb w e 1 v m (xs.map f)):nP (Wk.one f) e 1 Pb Pe w v xs:=by
 subst hm;refine ⟨_,h,fun i x hx=>?_⟩;have hi:i<(xs.map f).length:=by simpa using (List.getElem?_eq_some_iff.1 hx).1
 simp only [one,anx];rw [anF hi];have:=(List.getElem?_eq_some_iff.1 hx).2;simp [this]
theorem nP.to1 {α:Type} {f:α->Value} {e:TypeId} {Pb Pe:Nat->Prop} {w:World} {v:Value} {xs:List α} (h:nP (Wk.one f) e 1 Pb Pe w v xs):uH Pb w e 1 v xs.length (xs.map f):=by
 obtain ⟨cs,hoc,he⟩:=h;have hl:cs.length=xs.length:=by simpa using hoc.1
 have:cs=xs.map f:=by apply List.ext_getElem (by simpa using hl);intro i h1 h2;have hx:xs[i]? =some xs[i]:=anv (by omega);have:=he i _ hx;simp only [one,anx] at this;rw [anF h1,an0,an1] at this;rw [(List.cons.inj this).1];simp
 rw [<-this];exact hoc
def Wv (ops:List Oper):Bool:=(ab8 ops.length).all fun i=>match ops[i]? with
 |some o=>o.dst.isSome&&o.after.all fun e=>e.on<i
 |none=>true
def Z5 (ops:List Oper):Bool:=(ab8 ops.length).all fun i=>(ab8 ops.length).all fun j=>i == j||((ops[i]?).bind (·.dst)) != ((ops[j]?).bind (·.dst))
def vF (ops:List Oper) (i:Nat):Nat:=(((ops[i]?).bind (·.dst))).getD 0
def zB (Φ:Nat->Value->World->Prop) (w0:World) (d i:Nat) (F:Fr):Po:=fun e F' w'=>e=.normal/\ ∃v,F'=upd F d v/\New w0 w'/\Φ i v w'
theorem eH {Φ:Nat->Value->World->Prop} {w0 w':World} {d i:Nat} {F:Fr} {v:Value} (h1:New w0 w') (h2:Φ i v w'):zB Φ w0 d i F .normal (upd F d v) w':=⟨rfl,v,rfl,h1,h2⟩
section
variable {P:Program} {n:Nat} {ds:List Deferred} {Q:Po} {F0:Fr} {w0:World} {ops:List Oper}
def unl (listed:Array Bool):Nat:=listed.toList.count false
end
class Flat (P:Program) (t:TypeId) (n:outParam Nat):Prop where
 ex: ∃fs,P.underlying t=some (.struct fs)/\fs.size=n/\((ab8 n).all fun i=>match fs[i]? with|some f=>f.offset == i&&(P.info? f.type).map (·.size) == some 1|none=>false)=true
def Hq (cs:Array Value):List (Nat×Value)->Array Value
 | []=>cs
 |(i,v)::r=>Hq (cs.setIfInBounds i v) r
section
variable {P:Program} {n:Nat} {ds:List Deferred} {Q:Po} {F:Fr} {w w':World} {ops rest:List Oper} {d d1 d2:Nat} {ty ty1 ty2:TypeId} {pos pos1 pos2:String} {aft Hl Ho:Array Edge}
theorem mapM_ok {α β:Type} {f:α->Sem β} {g:α->β}: ∀(l:List α),(∀x∈l, ∀w,(f x).run P w=.ok (g x) w)-> ∀w,(l.mapM f).run P w=.ok (l.map g) w
 | [],_,w=>by simp
 |x::l,h,w=>by rw [List.mapM_cons];simp only [Sem.run_bind,h x (by simp),Result.andThen_ok,mapM_ok l (fun y hy=>h y (by simp [hy])),Sem.run_pure,acd]
theorem fill_flat {m:Nat} {places:Nat->Option (Nat×Nat)}: ∀(parts:List (Nat×Value)) (cells:Array Value),cells.size=m->(∀i,i<m->places i=some (i,1))->(∀p∈parts,p.1<m/\p.2.cells= #[p.2])->
 Instr.fill places cells parts=some (Hq cells parts)
 | [],cells,_,_,_=>rfl
 |(i,v)::r,cells,hs,hp,h=>by obtain ⟨h1,h2⟩:=h (i,v) (by simp);dsimp only at h1 h2;simp only [Instr.fill,hp i h1,h2];rw [if_neg (by simp;omega), <-aoc,aod];exact fill_flat r _ (by simpa using hs) hp fun p hp=>h p (by simp [hp])
theorem Qk {t:TypeId} {m sz bytes:Nat} {agg:Bool} {z:Value} {parts:List (Nat×Value)} (hf:Flat P t m) (he:ElT P t sz bytes agg z) (hz:z.cells.size=m) (hp: ∀p∈parts,p.1<m/\p.2.cells= #[p.2]):
 (Instr.build t parts.toArray).run P w=.ok (.agg (Hq z.cells parts)) w:=by
 obtain ⟨fs,hu,hsz,hall⟩:=hf.ex;have Wx: ∀(i:Nat) (hi:i<fs.size),fs[i].offset=i/\ ∀w,(sizeOf fs[i].type).run P w=.ok 1 w:=by intro i hi;have:=List.all_eq_true.1 hall i (List.mem_range.2 (by omega));simp only [aaX hi,ann,beq_iff_eq] at this;refine ⟨this.1,fun w=>?_⟩;obtain ⟨ti,h1,h2⟩:=Option.map_eq_some_iff.1 this.2;simp [sizeOf,typeInfo,h1,h2]
 have hm:(fs.mapM fun f=>(do pure (f.offset, <-sizeOf f.type):Sem (Nat×Nat))).run P w=.ok (fs.map fun f=>(f.offset,1)) w:=by rw [Array.mapM_eq_mapM_toList];have:=mapM_ok (P:=P) (f:=fun f:Field=>(Prod.mk f.offset<$>sizeOf f.type:Sem (Nat×Nat))) (g:=fun f=>(f.offset,1)) fs.toList (fun f hf w=>by obtain ⟨i,hi,rfl⟩:=aoh hf;have:=(Wx i (by simpa using hi)).2 w;simp at this ⊢;simp [this]) w;simp [this];apply anI;simp
 have hpl: ∀i,i<m->(fs.map fun f=>(f.offset,1))[i]? =some (i,1):=by
  intro i hi;have hi':i<fs.size:=by omega
  rw [Array.getElem?_map,aaX hi'];simp [(Wx i hi').1]
 have Wy:=fill_flat (m:=m) (places:=((fs.map fun f=>(f.offset,1))[·]?)) parts z.cells hz hpl hp;simp only [Instr.build,Sem.run_bind,he.zeroValue,Result.andThen_ok,run_underlying hu,hm,Wy,Sem.run_pure]
theorem aX {t:TypeId} {m sz bytes:Nat} {agg:Bool} {z:Value} {ps:List (Nat×Operand)} {parts:List (Nat×Value)} [hf:Flat P t m] [he:ElT P t sz bytes agg z] (hz:z.cells.size=m) (hps:ps.map (fun p=>(p.1,ev n F p.2))=parts) (hp: ∀p∈parts,p.1<m/\p.2.cells= #[p.2])
 (c:Wl P n ds Q ops rest (upd F d (.agg (Hq z.cells parts))) w):Wl P n ds Q ops (⟨some d,.build t ps.toArray,ty,pos,aft,none⟩::rest) F w:=by
 refine Wl.val ?_ c;subst hps;have:=Qk (P:=P) (w:=w) hf he hz hp;simp only [execOp,am9,Sem.run_bind];rw [this];rfl
theorem bK {x:Operand} {e sz bytes:Nat} {z:Value} {b:Nat} {T:TypeId} {cs:List Value} [he:ElT P e sz bytes true z] (h:Bk w b T cs) (hl:cs.length=sz) (hx:ev n F x=.pointer (some ⟨b,0,none⟩))
 (c:Wl P n ds Q ops rest (upd F d (.agg cs.toArray)) w):Wl P n ds Q ops (⟨some d,.load e x,ty,pos,aft,none⟩::rest) F w:=
 Wl.val (by simp only [execOp,hx,Sem.run_bind,BB he hl (fun j u hu=>by rw [ace];exact h.cell hu),Result.andThen_ok,Sem.run_pure]) c
theorem jL {x i:Operand} {t e m bytes:Nat} {z u:Value} {k:IntKind} {j:Int} {cs:List Value} [ht:Und P t (.array m e)] [he:ElT P e 1 bytes false z] (hx:ev n F x=.agg cs.toArray) (hi:ev n F i=.int k j) (h0:0<=j) (h1:j<m) (hu:cs[j.toNat]? =some u)
 (c:Wl P n ds Q ops rest (upd F d u) w):Wl P n ds Q ops (⟨some d,.index t x i,ty,pos,aft,none⟩::rest) F w:=by
 have:(Instr.index t (.agg cs.toArray) (.int k j)).run P w=.ok u w:=by simp [Instr.index,asIntOf,run_underlying ht.h,h0,h1,he.sizeOf,part,he.isAgg,hu]
 exact Wl.val (by simp only [execOp,hx,hi,Sem.run_bind,this,Result.andThen_ok,Sem.run_pure]) c
theorem kV {x:Operand} {t m e:Nat} {a:Option Addr} {l cap:Nat} [ht:Und P t (.array m e)] (hx:ev n F x=.slice a l cap) (hl:m<=l)
 (c:Wl P n ds Q ops rest (upd F d (.pointer a)) w):Wl P n ds Q ops (⟨some d,.sliceToArrayPointer t x,ty,pos,aft,none⟩::rest) F w:=by
 have:(Instr.arrayAt t (.slice a l cap)).run P w=.ok (.pointer a) w:=by simp [Instr.arrayAt,run_underlying ht.h];omega
 exact Wl.val (by simp only [execOp,hx,Sem.run_bind,this,Result.andThen_ok,Sem.run_pure]) c
theorem jk {x:Operand} {t t' e:TypeId} {l:List UInt8} [ht:Und P t .string] [ht':Und P t' (.slice e)] [he:Und P e (.int .u8)] (hx:ev n F x=vs l) (hlm:l.length<=maxLen)
 (c: ∀w' cap C fr,w'.heap[w.heap.size]? =some (.cells C e fr)->C.toList.take l.length=l.map (fun b=>.int .u8 b.toNat)->l.length<=C.size->New w w'->w'.heap.size=w.heap.size+1->
   RdS (Wk.one fun b:UInt8=>.int .u8 b.toNat) 1 (fun b=>w.heap.size<=b) w' (.slice (some ⟨w.heap.size,0,none⟩) l.length cap) l->Wl P n ds Q ops rest (upd F d (.slice (some ⟨w.heap.size,0,none⟩) l.length cap)) w'):
 Wl P n ds Q ops (⟨some d,.convert t t' x,ty,pos,aft,none⟩::rest) F w:=by
 have hs:(⟨l.toArray⟩:ByteArray).size=l.length:=by simp [ByteArray.size]
 have hr:=Lib.run_convert_string_bytes (P:=P) w t t' e ⟨l.toArray⟩ ht.h ht'.h he.h;have hge:=grownCap_ge w l.length 0 e;have hle:=grownCap_le_maxLen w l.length 0 e hlm;rw [hs] at hr;have hC:Lib.bytesCells w e ⟨l.toArray⟩=(l.map (fun b=>Value.int .u8 b.toNat)).toArray++anp (grownCap w l.length 0 e-l.length) (.int .u8 0):=by simp [Lib.bytesCells,hs]
 have hnew:=Lib.bytesWorld_at_new w e ⟨l.toArray⟩;have htk:(Lib.bytesCells w e ⟨l.toArray⟩).toList.take l.length=l.map (fun b=>Value.int .u8 b.toNat):=by rw [hC,aoe,anX (by simp),anL (by simp)]
 have hsz:l.length<=(Lib.bytesCells w e ⟨l.toArray⟩).size:=by rw [hC];simp
 have hn:New w (Lib.bytesWorld w e ⟨l.toArray⟩):=by refine ⟨rfl,rfl,rfl,by rw [Lib.bytesWorld_size];omega,fun k hk _=>Lib.bytesWorld_at_old w e _ k hk⟩
 refine Wl.val (w':=Lib.bytesWorld w e ⟨l.toArray⟩) ?_ (c _ (grownCap w l.length 0 e) _ _ hnew htk hsz hn (Lib.bytesWorld_size w e _) ?_)
 ·simp only [execOp,hx,Sem.run_bind,hr,Result.andThen_ok,Sem.run_pure]
 ·refine .inr (.inr ⟨w.heap.size,0,_,_,_,_,rfl,aap _,hnew,hge,hle,by omega,fun i b hb=>?_⟩);have hi:i<l.length:=(List.getElem?_eq_some_iff.1 hb).1;have h1:=congrArg (fun q=>q[i]?) htk;simp only [aaQ,if_pos hi,an3,hb,am6] at h1;obtain ⟨h2,h3⟩:=List.getElem?_eq_some_iff.1 h1;simp only [one,ace,anx];rw [anF h2,h3];rfl
theorem aaz (a b m:Nat) (hb:b<2^m):a*2^m ||| b=a*2^m+b:=by
 rw [anZ,Nat.two_pow_add_eq_or_of_lt hb]
theorem CQ {k:IntKind} (hk:k.signed=false) {x:Int} (h0:0<=x) (h1:x<2^k.bits):k.wrap x=x:=by
 simp only [IntKind.wrap,hk,Bool.false_and,anP,if_false];exact an2 h0 h1
theorem YQ {k:IntKind} (hk:k.signed=false) (a b m:Nat) (hb:b<2^m) (hab:a*2^m+b<2^k.bits):Op.intBits .or k ((a*2^m:Nat):Int) (b:Int)=pure (.int k ((a*2^m+b:Nat):Int)):=by
 have h1:(BitVec.ofInt k.bits ((a*2^m:Nat):Int) ||| BitVec.ofInt k.bits (b:Int)).toNat=a*2^m+b:=by
  rw [BitVec.toNat_or,BitVec.toNat_ofInt,BitVec.toNat_ofInt];have e1:(((a*2^m:Nat):Int) % ((2^k.bits:Nat):Int)).toNat=a*2^m:=by rw [an2 (by omega) (by omega)];omega
  have e2:((b:Int) % ((2^k.bits:Nat):Int)).toNat=b:=by rw [an2 (by omega) (by omega)];omega
  rw [e1,e2,aaz _ _ _ hb]
 simp only [Op.intBits,h1]
 rw [CQ hk (by omega) (by have:((a*2^m+b:Nat):Int)<((2^k.bits:Nat):Int):=by omega
                          simpa using this)]
theorem Wl.orU {x y:Operand} {t t':TypeId} {k:IntKind} {A B:Int} (a b m:Nat) (hk:k.signed=false) (hA:A=((a*2^m:Nat):Int)) (hB:B=(b:Int)) (hb:b<2^m) (hab:a*2^m+b<2^k.bits) (hx:ev n F x=.int k A) (hy:ev n F y=.int k B)
 (c:Wl P n ds Q ops rest (upd F d (.int k ((a*2^m+b:Nat):Int))) w):Wl P n ds Q ops (⟨some d,.binOp .or t x y t',ty,pos,aft,none⟩::rest) F w:=by
 subst hA;subst hB;refine Wl.val ?_ c;simp only [execOp,hx,hy,Sem.run_bind,pM,Result.andThen_ok];have:binOp .or t (.int k ((a*2^m:Nat):Int)) (.int k (b:Int))=Op.intBits .or k ((a*2^m:Nat):Int) (b:Int):=by simp [binOp]
 rw [this,YQ hk a b m hb hab];rfl
end
section
variable {P:Program} {n:Nat} {ds:List Deferred} {C:World->Prop} {K:Fr->Prop} {F:Fr} {ops rest:List Oper} {d:Nat} {ty:TypeId} {pos:String} {aft:Array Edge}
theorem dA {x:Operand} {a:Addr} (hx:ev n F x=.pointer (some a)) (c:Wq P n ds C K ops rest (upd F d (.pointer (some a)))):
 Wq P n ds C K ops (⟨some d,.nilCheck x,ty,pos,aft,none⟩::rest) F:=
 Wq.val (fun w _=>by simp only [execOp,hx,Sem.run_pure]) c
theorem kW {x:Operand} {T i off fty:Nat} {sz bytes:Nat} {agg:Bool} {z:Value} {b o:Nat} [hf:Fld P T i off fty] [he:ElT P fty sz bytes agg z] (hx:ev n F x=.pointer (some ⟨b,o,none⟩)) (hz:ank sz 0=false)
 (c:Wq P n ds C K ops rest (upd F d (.pointer (some ⟨b,o+off,none⟩)))):Wq P n ds C K ops (⟨some d,.fieldAddr T x i,ty,pos,aft,none⟩::rest) F:=
 Wq.val (fun w _=>by simp only [execOp,hx,Sem.run_bind,FV hf he (anA hz),Result.andThen_ok,Sem.run_pure]) c
theorem aa6 {x:Operand} {T i off fty:Nat} {sz bytes:Nat} {agg:Bool} {z:Value} {b o:Nat} [hf:Fld P T i off fty] [he:ElT P fty sz bytes agg z] (c:Wq P n ds C K ops rest (upd F d (.pointer (some ⟨b,o+off,none⟩)))) (hx:ev n F x=.pointer (some ⟨b,o,none⟩):=by exact rfl) (hz:ank sz 0=false:=by exact rfl):Wq P n ds C K ops (⟨some d,.fieldAddr T x i,ty,pos,aft,none⟩::rest) F:=kW hx hz c
theorem au {x:Operand} {e bytes:Nat} {z u:Value} {b o:Nat} [he:ElT P e 1 bytes false z] (hx:ev n F x=.pointer (some ⟨b,o,none⟩)) (hc: ∀w,C w->w.cell? ⟨b,o,none⟩=some u)
 (c:Wq P n ds C K ops rest (upd F d u)):Wq P n ds C K ops (⟨some d,.load e x,ty,pos,aft,none⟩::rest) F:=
 Wq.val (fun w hw=>by simp only [execOp,hx,Sem.run_bind,JO he (hc w hw),Result.andThen_ok,Sem.run_pure]) c
section
variable {x lo hi:Operand} {t:TypeId} {k:IntKind} {a b:Int} {l:List UInt8}
theorem kX [ht:Und P t .string] (hx:ev n F x=vs l) (hl:ev n F lo=.int k a) (h0:0<=a) (h1:a<=l.length)
 (c:Wq P n ds C K ops rest (upd F d (vs (l.drop a.toNat)))):Wq P n ds C K ops (⟨some d,.slice t x (some lo) none none,ty,pos,aft,none⟩::rest) F:=by
 obtain ⟨a,rfl⟩:=ane h0;refine Wq.val (fun w _=>?_) c;have:=zA (P:=P) (w:=w) (l:=l) (lo:=some (.int k a)) (hi:=none) (a:=a) (b:=l.length) ht.h (.inr ⟨k,rfl⟩) (.inl ⟨rfl,rfl⟩) (by omega) (aap _);simp only [execOp,hx,hl,ani,am6,Sem.run_bind,this,Result.andThen_ok,Sem.run_pure,aon,ant]
end
end
def QF:Exit->Act->World->Prop:=fun _ _ _=>False
def zC (P:Program) (ops:Array Oper) (C:World->Prop) (last:Nat) (Q:Exit->Act->World->Prop):Nat->Array Bool->Act->World->Prop
 |0,listed,a,w=>Region.ready .any ops listed=[]/\Q .normal a w
 |fuel+1,listed,a,w=>
  (Region.ready .any ops listed=[]->Q .normal a w)/\
  ∀i∈Region.ready .any ops listed,(i≠last->wpOp P ops QF i (fun a' w'=>C w'/\zC P ops C last Q fuel (listed.setIfInBounds i true) a' w') a w)/\
   (i=last->wpOp P ops Q i (zC P ops C last Q fuel (listed.setIfInBounds i true)) a w)
section
variable {P:Program} {ops:Array Oper} {C:World->Prop} {last:Nat} {Q:Exit->Act->World->Prop}
theorem zD {i:Nat} {K K':Act->World->Prop} {a:Act} {w:World} (hK: ∀a w,K a w->K' a w) (h:wpOp P ops QF i K a w):wpOp P ops Q i K' a w:=by
 unfold wpOp at h ⊢;split
 ·rename_i ho;simp only [ho] at h;exact hK _ _ h
 ·rename_i o ho
  simp only [ho] at h;split
  ·rename_i hw
   simp only [hw,if_true] at h;rcases h with h|⟨_,a₀,w₀,hq⟩
   ·refine .inl ?_;unfold Oper.wp at*;generalize (execOp a.eval o).run P w=r at*;cases r with
    |ok nx w'=>
     cases nx<;>simp only [Oper.upon] at h ⊢ <;>
      first
       |exact hK _ _ h
       |exact Calls.mono h (fun e w'' he=>by cases e<;>first|exact hK _ _ he|exact he.elim|(obtain ⟨a₀,w₀,hq⟩:=he;exact hq.elim))
       |exact Rows.mono h (fun _ _ he=>hK _ _ he)
    |halt x w'=>cases x<;>simp only [Oper.upon] at h ⊢ <;>exact h.elim
   ·exact hq.elim
  ·rename_i hw
   simp only [hw] at h;exact hK _ _ h
theorem CS: ∀(fuel:Nat) (listed:Array Bool) (a:Act) (w:World),zC P ops C last Q fuel listed a w->wpAny P .any ops Q fuel listed a w
 |0,_,_,_,h=>h
 |fuel+1,listed,a,w,h=>⟨h.1,fun i hi=>by
   by_cases hil:i=last
   ·have:=(h.2 i hi).2 hil;refine wpOp_mono (fun a' w' h'=>CS fuel _ a' w' h') this
   ·exact zD (fun a' w' h'=>CS fuel _ a' w' h'.2) ((h.2 i hi).1 hil)⟩
theorem wpOp_put {j:Nat} {oi oj:Oper} {v:Value} (hj:ops[j]? =some oj) (hap:oi.apart ops oj=true)
 (hsi: ∀cs b,oi.op≠ .select cs b) (hsj: ∀cs b,oj.op≠ .select cs b) {K:Act->World->Prop} {a:Act} {w:World} (hy:YieldsIn P ops C oi v a) (h:wpOp P ops QF j K (a.put oi.dst v) w):
 wpOp P ops QF j (fun a' w'=>YieldsIn P ops C oi v a'/\K (a'.put oi.dst v) w') a w:=by
 obtain ⟨h1,h2,h3⟩:=Oper.apart_spec hap;have keep: ∀(a:Act),YieldsIn P ops C oi v a-> ∀u,YieldsIn P ops C oi v (a.put oj.dst u):=fun a hy u=>
  hy.of_same (execOp_put oi hsi a oj.dst u h3) (wanted_put oi a oj.dst u h3)
 have both: ∀u w',K ((a.put oi.dst v).put oj.dst u) w'->YieldsIn P ops C oi v (a.put oj.dst u)/\K ((a.put oj.dst u).put oi.dst v) w':=fun u w' hk=>⟨keep a hy u,by rw [<-Act.put_comm a v u h2];exact hk⟩;unfold wpOp at*;simp only [hj] at*;rw [wanted_put oj a oi.dst v h1] at h;split
 ·rename_i hw
  simp only [hw,if_true] at h;rcases h with h|⟨_,a₀,w₀,hq⟩
  ·refine .inl ?_;unfold Oper.wp at*;rw [execOp_put oj hsj a oi.dst v h1] at h;generalize (execOp a.eval oj).run P w=r at*;cases r with
   |ok nx w'=>
    cases nx with
    |value u=>exact both _ _ h
    |skip=>exact both _ _ h
    |enter f args=>exact Calls.mono h (fun e w'' he=>by cases e with|returned u=>exact both _ _ he|panicked c=>exact he.elim|outgrown=>obtain ⟨a₀,w₀,hq⟩:=he;exact hq.elim)
    |row r' args=>exact Rows.mono h (fun _ _ he=>both _ _ he)
    |defer d=>
     simp only [Oper.upon] at h ⊢;refine ⟨?_,?_⟩
     ·have h5: ∀u,YieldsIn P ops C oi v (({a with defers:=d::a.defers}:Act).put oj.dst u):=by intro u;have h6:=keep a hy u;exact h6.of_same (by congr 1;funext x;cases oj.dst<;>cases x<;>rfl) (by cases oj.dst<;>rfl)
      exact h5 _
     ·have:({(a.put oi.dst v) with defers:=d::(a.put oi.dst v).defers}:Act).put oj.dst undef=(({a with defers:=d::a.defers}:Act).put oj.dst undef).put oi.dst v:=by rw [<-Act.put_comm _ v undef h2];cases oi.dst<;>rfl
      rw [<-this];exact h
    |_=>exact h.elim
   |halt x w'=>cases x<;>exact h.elim
  ·exact hq.elim
 ·rename_i hw
  simp only [hw] at h;exact both _ _ h
def Ap (ops:Array Oper) (listed:Array Bool):Prop:= ∀(j:Nat) (o:Oper),listed.getD j false=true->ops[j]? =some o-> ∀e∈o.after,Region.binds .any e=true->listed.getD e.on false=true
theorem Ap.set {listed:Array Bool} (h:Ap ops listed) {i:Nat} (hi:i∈Region.ready .any ops listed):Ap ops (listed.setIfInBounds i true):=by
 intro j o hj ho e he hb;obtain ⟨_,oi,hoi,hall⟩:=mem_ready.1 hi;by_cases hji:i=j
 ·subst hji;rw [hoi] at ho;cases ho;exact getD_set_true (hall e he hb)
 ·rw [getD_set_ne false hji] at hj;exact getD_set_true (h j o hj ho e he hb)
def readB:Op->Bool
 | .move _| .assign _| .pick .. | .load .. | .binOp .. | .unOp .. | .convert .. | .slice .. | .fieldAddr .. | .field .. | .indexAddr .. | .index .. | .lookup .. | .extract .. | .nilCheck _=>true
 | .call c=>match c.callee with| .builtin .len=>true|_=>false
 |_=>false
theorem WB {s:Sem Value} {w w':World} {f:FuncId} {args:Array Value}:(do pure (Next.value (<-s)):Sem Next).run P w≠ .ok (.enter f args) w':=by
 simp only [Sem.run_bind];cases s.run P w with
 |ok v w1=>simp
 |halt x w1=>simp [Result.andThen]
theorem xX {α:Type} {s:Sem α} {k:α->Sem Next} {w w':World} {f:FuncId} {args:Array Value} (h: ∀x w1,(k x).run P w1≠ .ok (.enter f args) w'):(s >>= k).run P w≠ .ok (.enter f args) w':=by
 simp only [Sem.run_bind];cases s.run P w with
 |ok v w1=>exact h v w1
 |halt x w1=>simp [Result.andThen]
theorem DT {w w':World} {f:FuncId} {args:Array Value}:(runtimePanic .nilDeref:Sem Next).run P w≠ .ok (.enter f args) w':=by
 unfold runtimePanic;exact xX fun x w1=>by simp [goPanic]
theorem noEnter {o:Oper} (h:readB o.op=true) {ρ:Operand->Value} {w w':World} {f:FuncId} {args:Array Value}:(execOp ρ o).run P w≠ .ok (.enter f args) w':=by
 obtain ⟨dst,op,ty,pos,after,guard⟩:=o;cases op<;>simp only [readB] at h<;>first|(cases h;done)|skip
 case call c=>
  obtain ⟨callee,ajt,ats⟩:=c;cases callee with
  |builtin b=>
   cases b<;>simp only at h<;>first|(cases h;done)|skip
   simp only [execOp,resolve,Sem.run_bind,Sem.run_pure,Result.andThen_ok,invoke,builtin];generalize Sem.run P _ w=r;cases r<;>simp [Result.andThen]
  |_=>cases h
 all_goals simp only [execOp]
 all_goals first|exact WB|skip
 ·simp
 ·simp
 ·simp only [Sem.run_bind];generalize (asBool _).run P w=r;cases r<;>simp [Result.andThen]
 ·split
  ·exact DT
  ·exact DT
  ·exact DT
  ·split
   ·exact DT
   ·refine xX fun x w1=>xX fun y w2=>?_;split
    ·exact xX fun x w1=>by simp
    ·simp
   ·simp
  ·simp
theorem iD {i:Nat} {o:Oper} {v:Value} {a:Act} {w:World} (hi:ops[i]? =some o) (hy:YieldsIn P ops C o v a) (hr:readB o.op=true) (hC:C w) {K:Act->World->Prop} (h:K (a.put o.dst v) w):wpOp P ops Q i K a w:=by
 unfold Go.wpOp;simp only [hi];rcases hy with ⟨hw,hv⟩|⟨hw,rfl⟩
 ·simp only [hw,if_true];refine .inl ?_;have h3:=hv w hC;unfold Oper.quietAt at h3;unfold Oper.wp;have hne:= @noEnter P o hr a.eval w;generalize (execOp a.eval o).run P w=r at*;cases r with
  |ok n w'=>
   cases n<;>simp only [Oper.quietUpon] at h3<;>simp only [Oper.upon]
   case value u=>obtain ⟨e1,e2⟩:=h3;rw [e1,e2];exact h
   case skip=>obtain ⟨e1,e2⟩:=h3;rw [e1, <-e2];exact h
   case enter f args=>exact (hne rfl).elim
  |halt x w'=>simp only [Oper.quietUpon] at h3
 ·simp only [hw,anP,if_false];exact h
theorem KQ {i:Nat} {oi:Oper} {v:Value} (hi:ops[i]? =some oi) (hr:readB oi.op=true) (hsel: ∀(j:Nat) (o:Oper) cs b,ops[j]? =some o->o.op≠ .select cs b) (hil:i≠last)
 (HL: ∀listed:Array Bool,Ap ops listed->last∈Region.ready .any ops listed->listed.getD i true=true):
 ∀(fuel:Nat) (listed:Array Bool) (a:Act) (w:World),Ap ops listed->C w->
  (∀j oj,ops[j]? =some oj->j≠i->listed.getD j true=false->(∀e∈oj.after,Region.binds .any e=true->e.on≠i)->oi.apart ops oj=true)->
  i∈Region.ready .any ops listed->YieldsIn P ops C oi v a->
  zC P ops C last Q fuel (listed.setIfInBounds i true) (a.put oi.dst v) w->zC P ops C last Q (fuel+1) listed a w:=by
 intro fuel;have SK: ∀listed:Array Bool,Ap ops listed->i∈Region.ready .any ops listed-> ∀j,j∈Region.ready .any ops listed->j≠last:=by intro listed hc hr j hj e;subst e;have:=HL listed hc hj;rw [(mem_ready.1 hr).1] at this;cases this
 induction fuel with
 |zero=>
  intro listed a w hc hC _ hrd hy H;refine ⟨fun h=>(by rw [h] at hrd;cases hrd),fun j hj=>⟨fun _=>?_,fun e=>absurd e (SK listed hc hrd j hj)⟩⟩;by_cases hji:j=i
  ·subst hji;exact iD hi hy hr hC ⟨hC,H⟩
  ·have:=ready_mono hj hji;rw [H.1] at this;cases this
 |succ fuel ih=>
  intro listed a w hc hC hfree hrd hy H;refine ⟨fun h=>(by rw [h] at hrd;cases hrd),fun j hj=>⟨fun hjl=>?_,fun e=>absurd e (SK listed hc hrd j hj)⟩⟩;by_cases hji:j=i
  ·subst hji;exact iD hi hy hr hC ⟨hC,H⟩
  ·have h1:=(H.2 j (ready_mono hj hji)).1 hjl;obtain ⟨hjun,oj,hoj,hall⟩:=mem_ready.1 hj;have hnot: ∀e∈oj.after,Region.binds .any e=true->e.on≠i:=fun e he hb heq=>by
    have h1:=hall e he hb;have h0:=(mem_ready.1 hrd).1;rw [heq] at h1;rcases Nat.lt_or_ge i listed.size with h'|h'
    ·simp [h'] at h0 h1;rw [h0] at h1;cases h1
    ·simp [Array.getElem?_eq_none h'] at h1
   have h2:=wpOp_put hoj (hfree j oj hoj hji hjun hnot) (fun cs b=>hsel i oi cs b hi) (fun cs b=>hsel j oj cs b hoj) hy h1
   have hfree': ∀k ok,ops[k]? =some ok->k≠i->(listed.setIfInBounds j true).getD k true=false->
    (∀e∈ok.after,Region.binds .any e=true->e.on≠i)->oi.apart ops ok=true:=fun k ok hk hki hun hno=>by
    refine hfree k ok hk hki ?_ hno;by_cases hjk:j=k
    ·subst hjk;exact hjun
    ·rw [getD_set_ne true hjk] at hun;exact hun
   refine wpOp_mono (fun a' w' h3=>⟨h3.2.1,ih (listed.setIfInBounds j true) a' w' (hc.set hj) h3.2.1 hfree' (ready_mono hrd (Ne.symm hji)) h3.1 ?_⟩) h2;rw [Array.setIfInBounds_comm _ _ hji];exact h3.2.2
def G6 (ops:Array Oper) (last:Nat):List Nat->Array Bool->Bool
 | [],_=>true
 |k::r,listed=>(Region.ready .any ops listed).contains k&&Region.free .any ops listed k&&k != last&&(match ops[k]? with|some o=>readB o.op|none=>false)&&G6 ops last r (listed.setIfInBounds k true)
def DV:List Nat->Array Bool->Array Bool
 | [],l=>l
 |k::r,l=>DV r (l.setIfInBounds k true)
theorem DW (hsel: ∀(j:Nat) (o:Oper) cs b,ops[j]? =some o->o.op≠ .select cs b)
 (HL: ∀listed:Array Bool,Ap ops listed->last∈Region.ready .any ops listed-> ∀i,i≠last->i<ops.size->listed.getD i true=true) (m:Nat):
 ∀(qs:List Nat) (lq:List Oper) (listed:Array Bool) (a:Act) (w:World),qs.map (fun k=>ops[k]?)=lq.map some->G6 ops last qs listed=true->Ap ops listed->C w->
  wpQuiet P ops C (fun a'=>zC P ops C last Q m (DV qs listed) a' w) lq a->zC P ops C last Q (qs.length+m) listed a w
 | [],[],listed,a,w,_,_,_,hC,h=>by simpa [DV,wpQuiet] using h
 | [],_::_,_,_,_,h,_,_,_,_=>by simp at h
 |_::_,[],_,_,_,h,_,_,_,_=>by simp at h
 |k::r,o::lq,listed,a,w,hm,hq,hc,hC,h=>by
  simp only [acd,List.cons.injEq] at hm;simp only [G6,ann,hm.1] at hq;obtain ⟨⟨⟨⟨h1,h2⟩,h3⟩,h4⟩,h5⟩:=hq;have hrd:k∈Region.ready .any ops listed:=by simpa using h1
  have hkl:k≠last:=by simpa using h3
  have hst:qOp P ops C k (wpQuiet P ops C (fun a'=>zC P ops C last Q m (DV r (listed.setIfInBounds k true)) a' w) lq) a:=by unfold qOp;simp only [hm.1];exact h
  obtain ⟨v,hy,hK⟩:=yieldsIn_of_qOp hm.1 hst;have e:(k::r).length+m=(r.length+m)+1:=by simp;omega
  rw [e];exact KQ hm.1 h4 hsel hkl (fun l hl hr=>HL l hl hr k hkl (Array.getElem?_eq_some_iff.1 hm.1).1) _ listed a w hc hC (Region.free_spec hm.1 h2) hrd hy (DW hsel HL m r lq _ _ w hm.2 h5 (hc.set hrd) hC hK)
def DX (ops:Array Oper) (last:Nat):List Nat->Array Bool->Bool
 | [],listed=>(Region.ready .any ops listed).isEmpty
 |k::r,listed=>Region.ready .any ops listed == [k]&&(k == last) == r.isEmpty&&DX ops last r (listed.setIfInBounds k true)
def ahead (ops:Array Oper):Nat->List Nat->List Nat
 |0,S=>S
 |f+1,S=>ahead ops f (S++(S.flatMap fun k=>match ops[k]? with|some o=>(o.after.toList.filter fun e=>Region.binds .any e).map (·.on)|none=>[]).eraseDups)
theorem xh {listed:Array Bool} (hc:Ap ops listed) (hr:last∈Region.ready .any ops listed): ∀(f:Nat) (S:List Nat),(∀k∈S,k=last∨listed.getD k false=true)-> ∀k∈ahead ops f S,k=last∨listed.getD k false=true
 |0,S,h,k,hk=>h k hk
 |f+1,S,h,k,hk=>by
  refine xh hc hr f _ ?_ k hk;intro j hj;rcases List.mem_append.1 hj with hj|hj
  ·exact h j hj
  ·rw [List.mem_eraseDups,List.mem_flatMap] at hj;obtain ⟨i,hi,hj⟩:=hj;cases ho:ops[i]? with
   |none=>rw [ho] at hj;cases hj
   |some o=>
    rw [ho] at hj;simp only [aoo,anj] at hj;obtain ⟨e,⟨he,hb⟩,rfl⟩:=hj;right;rcases h i hi with rfl|hl
    ·obtain ⟨_,o',ho',hall⟩:=mem_ready.1 hr;rw [ho] at ho';cases ho';exact hall e (by simpa using he) hb
    ·exact hc i o hl ho e (by simpa using he) hb
def Z7 (ops:List Oper) (qs cs:List Nat):Bool:=
 let a:=ops.toArray;let l0:=anp a.size false;let last:=cs.getLast?.getD 0
 Region.noSelect a&&G6 a last qs l0&&DX a last cs (DV qs l0)&&qs.length+cs.length == a.size&&(let S:=ahead a a.size [last];(ab8 a.size).all fun k=>S.contains k)
end
section
variable {P:Program} {n:Nat} {ds:List Deferred} {Q:Po} {F:Fr} {ops:List Oper} {C:World->Prop}
def Wch (P:Program) (n:Nat) (ds:List Deferred) (C:World->Prop) (Q:Po) (ops:List Oper):List Oper->Fr->World->Prop
 | [],F,w=>Q .normal F w
 |o::r,F,w=>if r.isEmpty then Wl P n ds Q ops [o] F w else Wl P n ds (fun e F' w'=>e=.normal/\C w'/\Wch P n ds C Q ops r F' w') ops [o] F w
theorem dI {o o2:Oper} {r:List Oper} {w:World} (h:Wl P n ds (fun e F' w'=>e=.normal/\C w'/\Wch P n ds C Q ops (o2::r) F' w') ops [o] F w):Wch P n ds C Q ops (o::o2::r) F w:=h
theorem Wch.last {o:Oper} {w:World} (h:Wl P n ds Q ops [o] F w):Wch P n ds C Q ops [o] F w:=h
theorem DY {a₁:Array Oper} {Qx:Exit->Act->World->Prop} {i:Nat} {K K':Act->World->Prop} {a:Act} {w:World} (noQ: ∀e a w,e≠ .normal-> ¬Qx e a w) (hK: ∀a w,K a w->K' a w) (h:wpOp P a₁ Qx i K a w):wpOp P a₁ QF i K' a w:=by
 unfold wpOp at h ⊢;split
 ·rename_i ho;simp only [ho] at h;exact hK _ _ h
 ·rename_i o ho
  simp only [ho] at h;split
  ·rename_i hw
   simp only [hw,if_true] at h;rcases h with h|⟨_,a₀,w₀,hq⟩
   ·refine .inl ?_;unfold Oper.wp at*;generalize (execOp a.eval o).run P w=r at*;cases r with
    |ok nx w'=>
     cases nx<;>simp only [Oper.upon] at h ⊢ <;>
      first
       |exact hK _ _ h
       |exact Calls.mono h (fun e w'' he=>by cases e<;>first|exact hK _ _ he|exact absurd he (noQ _ _ _ (by simp))|(obtain ⟨a₀,w₀,hq⟩:=he;exact absurd hq (noQ _ _ _ (by simp))))
       |exact Rows.mono h (fun _ _ he=>hK _ _ he)
    |halt x w'=>cases x<;>simp only [Oper.upon] at h ⊢ <;>first|exact h.elim|exact absurd h (noQ _ _ _ (by simp))
   ·exact absurd hq (noQ _ _ _ (by simp))
  ·rename_i hw
   simp only [hw] at h;exact hK _ _ h
theorem vM {Q':Po} {k:Nat} {o:Oper} {w:World} (ho:ops[k]? =some o) (h:Wl P n ds Q' ops [o] F w):wpOp P ops.toArray (QA n ds Q') k (fun a w'=>QA n ds Q' .normal a w') (act n ds F) w:=by
 unfold Wl wpList at h;unfold wpOp;simp only [anH,ho];exact h
theorem DZ {last:Nat}: ∀(cs:List Nat) (lc:List Oper) (listed:Array Bool) (F:Fr) (w:World),cs.map (fun k=>ops[k]?)=lc.map some->DX ops.toArray last cs listed=true->lc≠ []->Wch P n ds C Q ops lc F w->
 zC P ops.toArray C last (QA n ds Q) cs.length listed (act n ds F) w
 |_,[],_,_,_,_,_,h,_=>absurd rfl h
 | [],_::_,_,_,_,h,_,_,_=>by simp at h
 |k::r,o::lc,listed,F,w,hm,hc,_,h=>by
  simp only [acd,List.cons.injEq] at hm;simp only [DX,ann,beq_iff_eq] at hc;obtain ⟨⟨h1,h2⟩,h3⟩:=hc;have hlen:r.length=lc.length:=by have:=congrArg List.length hm.2;simpa using this
  have hrd: ∀i,i∈Region.ready .any ops.toArray listed->i=k:=fun i hi=>by rw [h1] at hi;simpa using hi
  refine ⟨fun h0=>(by rw [h0] at h1;cases h1),fun i hi=>?_⟩;obtain rfl:=hrd i hi;cases lc with
  |nil=>
   have hr:r=[]:=anf (by simpa using hlen);subst hr;have hl:i=last:=by simpa using h2
   refine ⟨fun e=>absurd hl e,fun _=>?_⟩;simp only [Wch,anG,if_true] at h;refine wpOp_mono (fun a' w' h'=>⟨?_,h'⟩) (vM hm.1 h);simpa [DX] using h3
  |cons o2 lc=>
   have hr:r.isEmpty=false:=by cases r with|nil=>simp at hlen|cons=>rfl
   rw [hr] at h2;have hl:i≠last:=by simpa using h2
   refine ⟨fun _=>?_,fun e=>absurd e hl⟩;simp only [Wch,List.isEmpty_cons,anP,if_false] at h;refine DY ?_ ?_ (vM hm.1 h)
   ·rintro e a' w' he ⟨F',_,h',_⟩;exact he h'
   ·rintro a' w' ⟨F',rfl,_,hC,h'⟩;refine ⟨hC,DZ r (o2::lc) _ F' w' hm.2 h3 (by simp) ?_⟩;simpa only [Wch] using h'
theorem zF {a₁:Array Oper} {K K':Act->Prop} (hK: ∀a,K a->K' a): ∀(l:List Oper) (a:Act),wpQuiet P a₁ C K l a->wpQuiet P a₁ C K' l a
 | [],a,h=>hK a h
 |o::l,a,h=>by
  unfold wpQuiet at h ⊢;split
  ·rename_i hw;rw [if_pos hw] at h;exact Oper.quiet_mono (fun a'=>zF hK l a') h
  ·rename_i hw;rw [if_neg hw] at h;exact zF hK l _ h
def pick (ops:List Oper):List Nat->List Oper
 | []=>[]
 |k::r=>match ops[k]? with|some o=>o::pick ops r|none=>pick ops r
theorem Ht {ops:List Oper}: ∀ {qs:List Nat},qs.all (fun k=>decide (k<ops.length))=true->qs.map (fun k=>ops[k]?)=(pick ops qs).map some
 | [],_=>rfl
 |k::r,h=>by simp only [List.all_cons,ann,decide_eq_true_eq] at h;have:=anv h.1;simp only [acd,pick,this,Ht h.2]
end
section
variable {P:Program} {n:Nat} {ds:List Deferred} {Q:Po} {F:Fr} {w w':World} {ops rest:List Oper} {d d1 d2:Nat} {ty ty1 ty2:TypeId} {pos pos1 pos2:String} {aft Hl Ho:Array Edge}
variable {C:World->Prop} {K:Fr->Prop}
def At (w:World) (b o:Nat) (cs:List Value):Prop:= ∀(i:Nat) (u:Value),cs[i]? =some u->w.cell? ⟨b,o+i,none⟩=some u
theorem At.get {b o:Nat} {cs:List Value} (h:At w b o cs) (i:Nat) {u:Value} (hu:cs[i]? =some u):w.cell? ⟨b,o+i,none⟩=some u:=h i u hu
theorem Bk.at {b:Nat} {T:TypeId} {cs:List Value} (h:Bk w b T cs):At w b 0 cs:=fun i u hu=>by rw [ace];exact h.cell hu
theorem At.keep {Pb:Nat->Prop} {b o:Nat} {cs:List Value} (h:At w b o cs) (hk:Keep Pb w w') (hb:Pb b) (hl:b<w.heap.size):At w' b o cs:=fun i u hu=>by
 have:=h i u hu;simp only [World.cell?] at this ⊢;rw [hk b hb hl];exact this
theorem aK {α:Type} {R:Rel α} {sz:Nat} {Pb:Nat->Prop} {xs:List α} {x i:Operand} {t e bytes:Nat} {agg:Bool} {z v:Value} {k:IntKind} {j:Int} {y:α}
 [ht:Und P t (.slice e)] [he:ElT P e sz bytes agg z] (h:RdS R sz Pb w v xs) (hx:ev n F x=v) (hi:ev n F i=.int k j) (h0:0<=j) (hy:xs[j.toNat]? =some y)
 (c: ∀b o cs,cs.length=sz->R Pb w y cs->At w b o cs->Wl P n ds Q ops rest (upd F d (.pointer (some ⟨b,o,none⟩))) w):
 Wl P n ds Q ops (⟨some d,.indexAddr t x i,ty,pos,aft,none⟩::rest) F w:=by
 obtain ⟨b,off,cap,rfl,hlt,cs,hl,hR,hc⟩:=h.cells hy;refine Wl.val (w':=w) (v:=.pointer (some ((⟨b,off,none⟩:Addr).add (j.toNat*sz)))) ?_ ?_
 ·simp only [execOp,hx,hi,Sem.run_bind,run_indexAt ht.h he h0 (by omega:j<xs.length),Result.andThen_ok,Sem.run_pure]
 ·rw [addr_add];exact c _ _ cs hl hR hc
theorem bQ {α:Type} {R:Rel α} {sz:Nat} {Pb:Nat->Prop} {xs:List α} {x i:Operand} {t e bytes:Nat} {agg:Bool} {z v:Value} {k:IntKind} {j:Int} {y:α} {w:World}
 [ht:Und P t (.slice e)] [he:ElT P e sz bytes agg z] (h:RdS R sz Pb w v xs) (hC: ∀w',C w'->Keep Pb w w') (hx:ev n F x=v) (hi:ev n F i=.int k j) (h0:0<=j) (hy:xs[j.toNat]? =some y)
 (c: ∀b o cs,cs.length=sz->R Pb w y cs->(∀w',C w'->At w' b o cs)->Wq P n ds C K ops rest (upd F d (.pointer (some ⟨b,o,none⟩)))):
 Wq P n ds C K ops (⟨some d,.indexAddr t x i,ty,pos,aft,none⟩::rest) F:=by
 have hlt': ∃b off cap,v=.slice (some ⟨b,off,none⟩) xs.length cap/\((0<sz)->Pb b/\b<w.heap.size)/\j.toNat<xs.length/\ ∃cs:List Value,cs.length=sz/\R Pb w y cs/\At w b (off+j.toNat*sz) cs:=by
  rcases h with ⟨rfl,rfl⟩|⟨a,cap,rfl,rfl,hc⟩|⟨b,off,cap,cur,e',fr,rfl,hb,hh,h1,h2,h3,h4⟩
  ·simp at hy
  ·simp at hy
  ·have h':RdS R sz Pb w (.slice (some ⟨b,off,none⟩) xs.length cap) xs:=.inr (.inr ⟨b,off,cap,cur,e',fr,rfl,hb,hh,h1,h2,h3,h4⟩);obtain ⟨b',off',cap',e1,hlt,cs,hl,hR,hc⟩:=h'.cells hy;cases e1;exact ⟨b,off,cap,rfl,fun _=>⟨hb,uT hh⟩,hlt,cs,hl,hR,hc⟩
 obtain ⟨b,off,cap,rfl,hb,hlt,cs,hl,hR,hc⟩:=hlt';refine Wq.val (v:=.pointer (some ((⟨b,off,none⟩:Addr).add (j.toNat*sz)))) (fun w1 _=>?_) ?_
 ·simp only [execOp,hx,hi,Sem.run_bind,run_indexAt ht.h he h0 (by omega:j<xs.length),Result.andThen_ok,Sem.run_pure]
 ·rw [addr_add];refine c _ _ cs hl hR fun w' hw'=>?_;rcases anY sz with hz|hz
  ·intro i u hu;rw [anf (hl.trans hz)] at hu;simp at hu
  ·exact hc.keep (hC w' hw') (hb hz).1 (hb hz).2
theorem dF {α:Type} {R:Rel α} {sz:Nat} {Pb:Nat->Prop} {xs:List α} {x i:Operand} {t e bytes:Nat} {agg:Bool} {z v:Value} {k:IntKind} {j:Int} {y:α} {w0:World}
 [ht:Und P t (.slice e)] [he:ElT P e sz bytes agg z] (h:RdS R sz Pb w0 v xs) (hk:Keep Pb w0 w) (hx:ev n F x=v) (hi:ev n F i=.int k j) (h0:0<=j) (hy:xs[j.toNat]? =some y)
 (c: ∀b o cs,cs.length=sz->R Pb w0 y cs->At w b o cs->Wl P n ds Q ops rest (upd F d (.pointer (some ⟨b,o,none⟩))) w):
 Wl P n ds Q ops (⟨some d,.indexAddr t x i,ty,pos,aft,none⟩::rest) F w:=by
 rcases h with ⟨rfl,rfl⟩|⟨a,cap,rfl,rfl,hc⟩|⟨b,off,cap,cur,e',fr,rfl,hb,hh,h1,h2,h3,h4⟩
 ·simp at hy
 ·simp at hy
 ·have h':RdS R sz Pb w0 (.slice (some ⟨b,off,none⟩) xs.length cap) xs:=.inr (.inr ⟨b,off,cap,cur,e',fr,rfl,hb,hh,h1,h2,h3,h4⟩);obtain ⟨b',off',cap',e1,hlt,cs,hl,hR,hc⟩:=h'.cells hy;cases e1;refine Wl.val (w':=w) (v:=.pointer (some ((⟨b,off,none⟩:Addr).add (j.toNat*sz)))) ?_ ?_
  ·simp only [execOp,hx,hi,Sem.run_bind,run_indexAt ht.h he h0 (by omega:j<xs.length),Result.andThen_ok,Sem.run_pure]
  ·rw [addr_add];exact c _ _ cs hl hR (At.keep (w:=w0) hc hk hb (uT hh))
theorem dD {α:Type} {f:α->Value} {Pb:Nat->Prop} {xs:List α} {x i:Operand} {t e bytes:Nat} {agg:Bool} {z v:Value} {k:IntKind} {j:Int} {y:α} {w:World}
 [ht:Und P t (.slice e)] [he:ElT P e 1 bytes agg z] (h:RdS (Wk.one f) 1 Pb w v xs) (hC: ∀w',C w'->Keep Pb w w') (hx:ev n F x=v) (hi:ev n F i=.int k j) (h0:0<=j) (hy:xs[j.toNat]? =some y)
 (c: ∀b o,(∀w',C w'->w'.cell? ⟨b,o,none⟩=some (f y))->Wq P n ds C K ops rest (upd F d (.pointer (some ⟨b,o,none⟩)))):
 Wq P n ds C K ops (⟨some d,.indexAddr t x i,ty,pos,aft,none⟩::rest) F:=
 bQ h hC hx hi h0 hy fun b o cs _ hR hat=>c b o fun w' hw'=>by cases hR;exact hat w' hw' 0 (f y) rfl
theorem aS {x:Operand} {e sz bytes:Nat} {z:Value} {b o:Nat} {cs:List Value} [he:ElT P e sz bytes true z] (h:At w b o cs) (hl:cs.length=sz) (hx:ev n F x=.pointer (some ⟨b,o,none⟩))
 (c:Wl P n ds Q ops rest (upd F d (.agg cs.toArray)) w):Wl P n ds Q ops (⟨some d,.load e x,ty,pos,aft,none⟩::rest) F w:=
 Wl.val (by simp only [execOp,hx,Sem.run_bind,BB he hl h,Result.andThen_ok,Sem.run_pure]) c
theorem bD {x:Operand} {e sz bytes:Nat} {z:Value} {b o:Nat} {cs:List Value} [he:ElT P e sz bytes true z] (h: ∀w,C w->At w b o cs) (hl:cs.length=sz) (hx:ev n F x=.pointer (some ⟨b,o,none⟩))
 (c:Wq P n ds C K ops rest (upd F d (.agg cs.toArray))):Wq P n ds C K ops (⟨some d,.load e x,ty,pos,aft,none⟩::rest) F:=
 Wq.val (fun w hw=>by simp only [execOp,hx,Sem.run_bind,BB he hl (h w hw),Result.andThen_ok,Sem.run_pure]) c
def rZ (cs:List Value) (o:Nat) (new:List Value):List Value:=cs.take o++new++cs.drop (o+new.length)
theorem KR {e sz bytes:Nat} {agg:Bool} {z:Value} {b o:Nat} {T:TypeId} {cs new:List Value} {u:Value} (he:ElT P e sz bytes agg z) (h:Bk w b T cs) (hn:new.length=sz) (ho:o+sz<=cs.length) (hu:u.cells=new.toArray) (h1: ∀c∈new,c.oneCell'=true):
 (Instr.storeAt e (.pointer (some ⟨b,o,none⟩)) u).run P w=.ok () (w.setRow b (rZ cs o new).toArray):=by
 have hr:=run_storeCells_at P b o T new 0 cs.toArray w h (by simp;omega) (by intro c hc;exact h1 c hc);simp only [Instr.storeAt,Instr.sureAddr,storeVar,Sem.run_bind,Sem.run_pure,Result.andThen_ok,he.sizeOf,hu];rw [if_neg (by simp [hn])];simpa [rZ] using hr
theorem Bk.setRow {b:Nat} {T:TypeId} {cs new:List Value} (h:Bk w b T cs):Bk (w.setRow b new.toArray) b T new:=setRow_heap w b _ _ T _ h
theorem aH {x y:Operand} {e sz bytes:Nat} {agg:Bool} {z u:Value} {b o:Nat} {T:TypeId} {cs new:List Value} [he:ElT P e sz bytes agg z] (h:Bk w b T cs) (hx:ev n F x=.pointer (some ⟨b,o,none⟩)) (hy:ev n F y=u) (hu:u.cells=new.toArray) (hn:new.length=sz) (ho:o+sz<=cs.length) (h1: ∀c∈new,c.oneCell'=true)
 (c: ∀w',Bk w' b T (rZ cs o new)->Chg (fun k=>k=b) w w'->w'.heap.size=w.heap.size->Wl P n ds Q ops rest F w'):Wl P n ds Q ops (⟨none,.store e x y,ty,pos,aft,none⟩::rest) F w:=
 fO (by simp only [execOp,hx,hy,Sem.run_bind,KR he h hn ho hu h1,Result.andThen_ok,Sem.run_pure]) (c _ h.setRow (Chg.setRow rfl) (by simp))
def ru (P:Program) (k:TypeId) (w:World) (b:Nat) (l:List (Value×Value)):Prop:=
 ∃es clock,w.heap[b]? =some (.map es clock)/\es.toList.map (fun e=>(e.key,e.val))=l/\ ∀e∈es.toList, ∃q,keyOf P k e.key=some q
theorem ru.lt {k:TypeId} {b:Nat} {l:List (Value×Value)} (h:ru P k w b l):b<w.heap.size:=by obtain ⟨_,_,h,_⟩:=h;exact (Array.getElem?_eq_some_iff.1 h).1
theorem ru.keep {Pb:Nat->Prop} {k:TypeId} {b:Nat} {l:List (Value×Value)} (h:ru P k w b l) (hk:Keep Pb w w') (hb:Pb b):ru P k w' b l:=by
 have hl:=h.lt;obtain ⟨es,clock,h,r⟩:=h;exact ⟨es,clock,(hk b hb hl).trans h,r⟩
theorem ru.chg {M:Nat->Prop} {k:TypeId} {b:Nat} {l:List (Value×Value)} (h:ru P k w b l) (hc:Chg M w w') (hb: ¬M b):ru P k w' b l:=by
 have hl:=h.lt;obtain ⟨es,clock,h,r⟩:=h;exact ⟨es,clock,(hc.block b hl hb).trans h,r⟩
theorem fU {t:TypeId} {k:TypeId} (c: ∀w',ru P k w' w.heap.size []->New w w'->w'.heap.size=w.heap.size+1->Wl P n ds Q ops rest (upd F d (.map (some w.heap.size))) w'):
 Wl P n ds Q ops (⟨some d,.makeMap t none,ty,pos,aft,none⟩::rest) F w:=by
 refine Wl.val (w':=w.alloc (.map #[] 0)) (v:=.map (some w.heap.size)) ?_ (c _ ⟨#[],0,heap_alloc_new w _,by simp,by simp⟩ (Chg.alloc _ _ _) (by simp));simp [execOp,Instr.makeMap]
theorem zG {t k e:TypeId} {sz bytes:Nat} {agg:Bool} {z:Value} {b:Nat} {l:List (Value×Value)} {key:Value} {q:Lit} (ht:P.underlying t=some (.map k e)) (he:ElT P e sz bytes agg z) (Kd:Maps.Keyed P k) (h:ru P k w b l) (hq:keyOf P k key=some q):
 ∃r,(Instr.lookup t (.map (some b)) key false).run P w=.ok r w/\((key,r)∈l∨r=z/\ ∀p∈l,p.1≠key):=by
 obtain ⟨es,clock,hh,rfl,hk⟩:=h;have hg:=run_getObj_map (P:=P) w b es clock hh;rcases Kd.find w hq es.toList hk with ⟨hf,hn⟩|⟨j,e0,hf,hj,rfl⟩
 ·refine ⟨z,?_,.inr ⟨rfl,fun p hp=>?_⟩⟩
  ·simp [Instr.lookup,run_underlying ht,hg,Kd.check w _ hq,hf,he.zeroValue]
  ·obtain ⟨e1,he1,rfl⟩:=List.mem_map.1 hp;exact hn e1 he1
 ·refine ⟨e0.val,?_,.inl (List.mem_map.2 ⟨e0,aop hj,rfl⟩)⟩;simp [Instr.lookup,run_underlying ht,hg,Kd.check w _ hq,hf]
theorem iQ {x i:Operand} {t k e:TypeId} {sz bytes:Nat} {agg:Bool} {z:Value} {b:Nat} {l:List (Value×Value)} {key:Value} {q:Lit} [ht:Und P t (.map k e)] [he:ElT P e sz bytes agg z] (Kd:Maps.Keyed P k) (h:ru P k w b l) (hq:keyOf P k key=some q)
 (hx:ev n F x=.map (some b)) (hi:ev n F i=key) (c: ∀r,((key,r)∈l∨r=z/\ ∀p∈l,p.1≠key)->Wl P n ds Q ops rest (upd F d r) w):
 Wl P n ds Q ops (⟨some d,.lookup t x i false,ty,pos,aft,none⟩::rest) F w:=by
 obtain ⟨r,hr,hp⟩:=zG ht.h he Kd h hq;exact Wl.val (by simp only [execOp,hx,hi,Sem.run_bind,hr,Result.andThen_ok,Sem.run_pure]) (c r hp)
theorem kY {x i:Operand} {t k e:TypeId} {sz bytes:Nat} {agg:Bool} {z u0:Value} {b:Nat} {l:List (Value×Value)} {key:Value} {q:Lit} {w:World} [ht:Und P t (.map k e)] [he:ElT P e sz bytes agg z] (Kd:Maps.Keyed P k) (h:ru P k w b l) (hall: ∀p∈l,p.2=u0) (hC: ∀w',C w'->w'.heap[b]? =w.heap[b]?) (hq:keyOf P k key=some q)
 (hx:ev n F x=.map (some b)) (hi:ev n F i=key) (c1:(key,u0)∈l->Wq P n ds C K ops rest (upd F d u0)) (c2:(∀p∈l,p.1≠key)->Wq P n ds C K ops rest (upd F d z)):
 Wq P n ds C K ops (⟨some d,.lookup t x i false,ty,pos,aft,none⟩::rest) F:=by
 have hM: ∀w',C w'->ru P k w' b l:=fun w' hw'=>by obtain ⟨es,clock,hh,r⟩:=h;exact ⟨es,clock,(hC w' hw').trans hh,r⟩
 have run: ∀w',C w'-> ∃r,(Instr.lookup t (.map (some b)) key false).run P w'=.ok r w'/\((key,r)∈l∨r=z/\ ∀p∈l,p.1≠key):=fun w' hw'=>zG ht.h he Kd (hM w' hw') hq;by_cases hin:(key,u0)∈l
 ·refine Wq.val (v:=u0) (fun w' hw'=>?_) (c1 hin);obtain ⟨r,hr,hp⟩:=run w' hw';obtain rfl:r=u0:=by
   rcases hp with hp|⟨_,hp⟩
   ·exact hall _ hp
   ·exact absurd rfl (hp _ hin)
  simp only [execOp,hx,hi,Sem.run_bind,hr,Result.andThen_ok,Sem.run_pure]
 ·have hn: ∀p∈l,p.1≠key:=fun p hp e=>hin (by have h2:=hall p hp;obtain ⟨p1,p2⟩:=p;simp only at e h2;subst e;subst h2;exact hp);refine Wq.val (v:=z) (fun w' hw'=>?_) (c2 hn);obtain ⟨r,hr,hp⟩:=run w' hw';obtain rfl:r=z:=by
   rcases hp with hp|⟨hz,_⟩
   ·exact absurd rfl (hn _ hp)
   ·exact hz
  simp only [execOp,hx,hi,Sem.run_bind,hr,Result.andThen_ok,Sem.run_pure]
theorem gU {x i y:Operand} {t k e:TypeId} {b:Nat} {l:List (Value×Value)} {key u:Value} {q:Lit} [ht:Und P t (.map k e)] (Kd:Maps.Keyed P k) (h:ru P k w b l) (hq:keyOf P k key=some q) (hn: ∀p∈l,p.1≠key)
 (hx:ev n F x=.map (some b)) (hi:ev n F i=key) (hy:ev n F y=u) (c: ∀w',ru P k w' b (l++ [(key,u)])->Chg (fun j=>j=b) w w'->w'.heap.size=w.heap.size->Wl P n ds Q ops rest F w'):
 Wl P n ds Q ops (⟨none,.mapUpdate t x i y,ty,pos,aft,none⟩::rest) F w:=by
 have hlt:=h.lt;obtain ⟨es,clock,hh,rfl,hk⟩:=h;have hg:=run_getObj_map (P:=P) w b es clock hh;rcases Kd.find w hq es.toList hk with ⟨hf,_⟩|⟨j,e0,hf,hj,rfl⟩
 ·have h1:(w.heap.setIfInBounds b (.map (es.push {key,val:=u,born:=clock}) (clock+1)))[b]? =some (.map (es.push {key,val:=u,born:=clock}) (clock+1)):=by simp [an5,hlt]
  have hset:(setObj b (.map (es.push {key,val:=u,born:=clock}) (clock+1))).run P w=.ok () {w with heap:=w.heap.setIfInBounds b (.map (es.push {key,val:=u,born:=clock}) (clock+1))}:=by simp [setObj,Sem.run,hh]
  refine fO (w':={w with heap:=w.heap.setIfInBounds b (.map (es.push {key,val:=u,born:=clock}) (clock+1))}) ?_ (c _ ⟨_,_,h1,by simp,fun e he=>?_⟩ ⟨rfl,rfl,rfl,by simp,fun j _ hj=>Array.getElem?_setIfInBounds_ne (Ne.symm hj)⟩ (by simp))
  ·simp [execOp,hx,hi,hy,Instr.mapUpdate,run_underlying ht.h,hg,Kd.check w _ hq,hf,hset]
  ·simp only [Array.toList_push,List.mem_append,List.mem_singleton] at he;rcases he with he|rfl
   ·exact hk e he
   ·exact ⟨q,hq⟩
 ·exact absurd rfl (hn (e0.key,e0.val) (List.mem_map.2 ⟨e0,aop hj,rfl⟩))
end
def Plain {α:Type} (R:Rel α):Prop:= ∀Pb Pb' w w' x cs,R Pb w x cs->R Pb' w' x cs
theorem nO {α:Type} (f:α->Value):Plain (Wk.one f):=fun _ _ _ _ _ _ h=>h
theorem nK {α:Type} (f:α->List Value):Plain (flat f):=fun _ _ _ _ _ _ h=>h
theorem qA {α:Type} {sz:Nat} (f:α->List Value) (hl: ∀x,(f x).length=sz) (h: ∀x, ∀c∈f x,c.oneCell'=true):qH (flat f) sz:=
 ⟨oH f,nS f,fun _ _ x cs e _ c hc=>by cases e;exact h x c hc⟩
def Sep (v u:Value):Prop:= ∀k,v.ownBlock=some k->u.ownBlock≠some k
theorem Sep.symm {v u:Value} (h:Sep v u):Sep u v:=fun k h1 h2=>h k h2 h1
section
variable {α β:Type} {R:Rel α} {R':Rel β} {e e':TypeId} {sz sz':Nat} {Pb Pe Qb Qe M:Nat->Prop} {w w':World} {v u u':Value} {xs:List α} {ys:List β}
theorem nP.chg (hR:Plain R) (h:nP R e sz Pb Pe w v xs) (c:Chg M w w') (s: ∀k,v.ownBlock=some k-> ¬M k):nP R e sz Pb Pe w' v xs:=by
 obtain ⟨cs,⟨hl,hoc⟩,he⟩:=h;refine ⟨cs,⟨hl,?_⟩,fun i x hx=>hR _ _ _ _ _ _ (he i x hx)⟩;rcases hoc with hoc|⟨b,cap,cur,rfl,hb,hg,r⟩
 ·exact .inl hoc
 ·exact .inr ⟨b,cap,cur,rfl,hb,(c.block b (uT hg) (s b rfl)).trans hg,r⟩
theorem nP.zH (hR:Plain R) (h:nP R e sz Pb Pe w v xs) (c:Chg (fun k=>u.ownBlock=some k) w w') (s:Sep v u):nP R e sz Pb Pe w' v xs:=h.chg hR c s
theorem nP.new (hR:Plain R) (h:nP R e sz Pb Pe w v xs) (c:New w w'):nP R e sz Pb Pe w' v xs:=h.chg hR c i3
theorem AB (h:nP R e sz Pb Pe w v xs) (s:Sep v u) (lie:u'.ownBlock=u.ownBlock∨ ∀b,u'.ownBlock=some b->w.heap.size<=b):Sep v u':=by
 intro k hk hk';rcases lie with lie|lie
 ·exact s k hk (lie▸hk')
 ·have:=(h.lt hk).2;have:=lie k hk';omega
theorem nP.take (h:nP R e sz Pb Pe w v xs) {m:Nat} (hm:m<=xs.length) {a:Option Addr} {l cap:Nat} (hv:v=.slice a l cap) (hz:a=none->m=0):nP R e sz Pb Pe w (.slice a m cap) (xs.take m):=by
 obtain ⟨cs,⟨hl,hoc⟩,he⟩:=h;have hlen:(xs.take m).length=m:=by simp;omega
 have hle:m*sz<=xs.length*sz:=aaw _ hm;refine ⟨cs.take (m*sz),⟨by rw [hlen];simp;omega,?_⟩,fun i x hx=>?_⟩
 ·rw [hlen];rcases hoc with ⟨rfl,h0⟩|⟨b,cap',cur,rfl,hb,hg,h1,h2,h3,h4⟩
  ·cases hv;exact .inl ⟨by rw [hz rfl],hz rfl⟩
  ·cases hv;exact .inr ⟨b,cap,cur,rfl,hb,hg,by omega,h2,h3,by rw [<-h4,anr,anh hle]⟩
 ·rw [aaQ] at hx;split at hx
  ·rename_i hi
   have h1:=he i x hx;have:(i+1)*sz<=m*sz:=aaw _ hi;rw [aaR] at this;rw [anE,anr,anh (by omega)];have e:(Value.slice a m cap).ownBlock=v.ownBlock:=by subst hv;cases a<;>rfl
   rw [e];exact h1
  ·cases hx
end
section
variable {P:Program} {n:Nat} {ds:List Deferred} {Q:Po} {F:Fr} {w w':World} {ops rest:List Oper} {d d1 d2:Nat} {ty ty1 ty2:TypeId} {pos pos1 pos2:String} {aft Hl Ho:Array Edge}
theorem kZ {α:Type} {R:Rel α} {Pb Pe:Nat->Prop} {xs:List α} {x hi:Operand} {t e e':TypeId} {sz sz' bytes:Nat} {agg:Bool} {z v:Value} {k:IntKind} {b:Int} [ht:Und P t (.slice e)] [he:ElT P e sz bytes agg z] (h:nP R e' sz' Pb Pe w v xs) (hx:ev n F x=v) (hh:ev n F hi=.int k b) (h0:0<=b) (h1:b<=xs.length)
 (c: ∀v',nP R e' sz' Pb Pe w v' (xs.take b.toNat)->v'.ownBlock=v.ownBlock->Wl P n ds Q ops rest (upd F d v') w):Wl P n ds Q ops (⟨some d,.slice t x none (some hi) none,ty,pos,aft,none⟩::rest) F w:=by
 obtain ⟨p,cap,rfl,hc,_⟩:=h.form;obtain ⟨b,rfl⟩:=ane h0;have:=uI (P:=P) (w:=w) (p:=p) (l:=xs.length) (lo:=none) (hi:=some (.int k b)) (a:=0) (b:=b) ht.h he (.inl ⟨rfl,rfl⟩) (.inr ⟨k,rfl⟩) (anq _) (by omega:b<=cap);have hp:(if cap=0 then p else p.map (·.add (0*sz)))=p:=by
  split
  ·rfl
  ·cases p with
   |none=>rfl
   |some a=>simp [Addr.add]
 refine Wl.val (w':=w) (v:=.slice p b cap) ?_ (c _ (h.take (m:=b) (by omega) rfl ?_) (by cases p<;>rfl))
 ·simp only [execOp,hx,hh,ani,am6,Sem.run_bind,this,Result.andThen_ok,Sem.run_pure,hp,aoq]
 ·rintro rfl;obtain ⟨cs,⟨_,hoc⟩,_⟩:=h;rcases hoc with ⟨e1,h2⟩|⟨_,_,_,e1,_⟩
  ·omega
  ·cases e1
theorem Hu {op:BinOp} {t:TypeId} {x y:Operand} {a b:Option Addr} {l c l' c':Nat}:(eqGuard op t x y (.slice a l c) (.slice b l' c')).run P w=.ok () w:=by
 unfold eqGuard;split<;>simp
theorem iR {x y:Operand} {t t' e:TypeId} {a:Option Addr} {l cap:Nat} [ht:Und P t (.slice e)] (hx:ev n F x=.slice a l cap) (hy:ev n F y=.slice none 0 0) (c:Wl P n ds Q ops rest (upd F d (.bool a.isNone)) w):
 Wl P n ds Q ops (⟨some d,.binOp .eql t x y t',ty,pos,aft,none⟩::rest) F w:=by
 refine Wl.val ?_ c;have h:(binOp .eql t (.slice a l cap) (.slice none 0 0)).run P w=.ok (.bool a.isNone) w:=by have:=run_equal_slice_nil (P:=P) w t e a l cap ht.h;simp [binOp,this]
 simp only [execOp,hx,hy,Sem.run_bind,Hu,Result.andThen_ok,h,Sem.run_pure]
theorem dB {x i:Operand} {t e sz bytes:Nat} {agg:Bool} {z:Value} {k:IntKind} {j:Int} {b off l cap:Nat} [ht:Und P t (.slice e)] [he:ElT P e sz bytes agg z] (hx:ev n F x=.slice (some ⟨b,off,none⟩) l cap) (hi:ev n F i=.int k j) (h0:0<=j) (h1:j<l)
 (c:Wl P n ds Q ops rest (upd F d (.pointer (some ⟨b,off+j.toNat*sz,none⟩))) w):Wl P n ds Q ops (⟨some d,.indexAddr t x i,ty,pos,aft,none⟩::rest) F w:=by
 refine Wl.val (w':=w) (v:=.pointer (some ((⟨b,off,none⟩:Addr).add (j.toNat*sz)))) ?_ ?_
 ·simp only [execOp,hx,hi,Sem.run_bind,run_indexAt ht.h he h0 h1,Result.andThen_ok,Sem.run_pure]
 ·rw [addr_add];exact c
theorem Wq.xP {C:World->Prop} {K:Fr->Prop} {x i:Operand} {t e sz bytes:Nat} {agg:Bool} {z:Value} {k:IntKind} {j:Int} {b off l cap:Nat} [ht:Und P t (.slice e)] [he:ElT P e sz bytes agg z] (hx:ev n F x=.slice (some ⟨b,off,none⟩) l cap) (hi:ev n F i=.int k j) (h0:0<=j) (h1:j<l)
 (c:Wq P n ds C K ops rest (upd F d (.pointer (some ⟨b,off+j.toNat*sz,none⟩)))):Wq P n ds C K ops (⟨some d,.indexAddr t x i,ty,pos,aft,none⟩::rest) F:=by
 refine Wq.val (v:=.pointer (some ((⟨b,off,none⟩:Addr).add (j.toNat*sz)))) (fun w _=>?_) ?_
 ·simp only [execOp,hx,hi,Sem.run_bind,run_indexAt ht.h he h0 h1,Result.andThen_ok,Sem.run_pure]
 ·rw [addr_add];exact c
theorem aa8 {C:World->Prop} {K:Fr->Prop} {x i:Operand} {t e sz bytes:Nat} {agg:Bool} {z:Value} {k:IntKind} {j:Int} {b off l cap:Nat} [ht:Und P t (.slice e)] [he:ElT P e sz bytes agg z] (c:Wq P n ds C K ops rest (upd F d (.pointer (some ⟨b,off+j.toNat*sz,none⟩)))) (hx:ev n F x=.slice (some ⟨b,off,none⟩) l cap:=by exact rfl) (hi:ev n F i=.int k j:=by exact rfl) (h0:0<=j:=by omega) (h1:j<l:=by omega):Wq P n ds C K ops (⟨some d,.indexAddr t x i,ty,pos,aft,none⟩::rest) F:=Wq.xP hx hi h0 h1 c
theorem nP.blk {α:Type} {R:Rel α} {e:TypeId} {sz:Nat} {Pb Pe:Nat->Prop} {v:Value} {xs:List α} (h:nP R e sz Pb Pe w v xs) (h0:xs≠ []): ∃g cap,v=.slice (some ⟨g,0,none⟩) xs.length cap/\Pb g/\g<w.heap.size/\v.ownBlock=some g:=by
 obtain ⟨cs,⟨hl,hoc⟩,he⟩:=h;rcases hoc with ⟨rfl,h2⟩|⟨g,cap,cur,rfl,hb,hg,_⟩
 ·exact absurd (anf h2) h0
 ·exact ⟨g,cap,rfl,hb,uT hg,rfl⟩
theorem nP.yQ {α:Type} {R:Rel α} {e:TypeId} {sz:Nat} {Pb Pb' Pe:Nat->Prop} {v:Value} {xs:List α} (h:nP R e sz Pb Pe w v xs) (hb: ∀b,v.ownBlock=some b->Pb b->Pb' b):nP R e sz Pb' Pe w v xs:=by
 obtain ⟨cs,⟨hl,hoc⟩,he⟩:=h;refine ⟨cs,⟨hl,?_⟩,he⟩;rcases hoc with hoc|⟨g,cap,cur,rfl,hg,r⟩
 ·exact .inl hoc
 ·exact .inr ⟨g,cap,cur,rfl,hb g rfl hg,r⟩
theorem nP.cell1 {α:Type} {f:α->Value} {e:TypeId} {Pb Pe:Nat->Prop} {v:Value} {xs:List α} {g l cap j:Nat} {y:α} (h:nP (Wk.one f) e 1 Pb Pe w v xs) (hv:v=.slice (some ⟨g,0,none⟩) l cap) (hy:xs[j]? =some y):w.cell? ⟨g,j,none⟩=some (f y):=by
 obtain ⟨b,off,cap',e1,hlt,cs,hl,hR,hc⟩:=(h.rd (nV _)).cells hy;rw [hv] at e1;cases e1;cases hR;simpa using hc 0 (f y) rfl
theorem dS {α:Type} {f:α->Value} {Pb Pe:Nat->Prop} {xs:List α} {x y:Operand} {e bytes:Nat} {agg:Bool} {z v u:Value} {g j cap:Nat} {q:α} [he:ElT P e 1 bytes agg z] (hown:nP (Wk.one f) e 1 Pb Pe w v xs) (hv:v=.slice (some ⟨g,0,none⟩) xs.length cap) (hj:j<xs.length)
 (hx:ev n F x=.pointer (some ⟨g,j,none⟩)) (hy:ev n F y=u) (hq:u=f q) (hu:u.oneCell'=true) (c: ∀w',nP (Wk.one f) e 1 Pb Pe w' v (xs.set j q)->Chg (fun b=>v.ownBlock=some b) w w'->Wl P n ds Q ops rest F w'):
 Wl P n ds Q ops (⟨none,.store e x y,ty,pos,aft,none⟩::rest) F w:=by
 subst hq;obtain ⟨cs,hoc,hel⟩:=hown;have huc:(f q).cells= #[f q]:=by cases hf:f q<;>simp_all [Value.cells,Value.oneCell']
 obtain ⟨w',hr,KP,hc⟩:=Qh (P:=P) (u:=f q) he hoc hv (j:=j) hj hu huc;exact fO (by simp only [execOp,hx,hy,Sem.run_bind,hr,Result.andThen_ok,Sem.run_pure]) (c w' (nP.set1 rfl hoc hel _ _ KP) hc)
theorem dn {fn:Fn} {first cap:List Operand} {f1 c1:List Value} (h1:first.map (ev n F)=f1) (h2:cap.map (ev n F)=c1) (c:Wl P n ds Q ops rest (upd F d (.func fn f1.toArray c1.toArray)) w):
 Wl P n ds Q ops (⟨some d,.makeFunc fn first.toArray cap.toArray,ty,pos,aft,none⟩::rest) F w:=by
 subst h1;subst h2;exact Wl.val (by simp [execOp,Instr.makeFunc]) c
theorem Wl.afJ {x y:Operand} {ts:Array TypeId} {k k':IntKind} {a b:Int} (hx:ev n F x=.int k a) (hy:ev n F y=.int k' b) (c:Wl P n ds Q ops rest (upd F d (.int k (if b<a then b else a))) w):
 Wl P n ds Q ops (⟨some d,.call {callee:=.builtin .min,args:= #[x,y],argTypes:=ts},ty,pos,aft,none⟩::rest) F w:=by
 refine Wl.val (w':=w) ?_ c;have hr:(Builtin.min_ ts ty #[.int k a,.int k' b]).run P w=.ok (.int k (if b<a then b else a)) w:=run_min_int2 _ _ _ _ _ _ _;simp only [execOp,resolve,Sem.run_bind,Sem.run_pure,Result.andThen_ok,invoke,builtin,am9,acd,anc,hx,hy,hr]
theorem bC {α:Type} {R:Rel α} {x:Operand} {t e:TypeId} {sz bytes:Nat} {agg:Bool} {z u:Value} {y:α} {cs:List Value} {Pe:Nat->Prop} (hR:qH R sz) [ht:Und P t (.slice e)] [he:ElT P e sz bytes agg z] (hx:ev n F x=u) (hcs:u.cells.toList=cs) (hl:cs.length=sz) (hy:R (fun b=>Pe b/\w.heap.size≠b) w y cs) (hsz:0<sz) (hsz2:sz<=16777216)
 (c: ∀v w',nP R e sz (fun b=>w.heap.size<=b) Pe w' v [y]->New w w'->w'.heap.size=w.heap.size+1->v.ownBlock=some w.heap.size->Wl P n ds Q ops rest (upd F d v) w'):
 Wl P n ds Q ops (⟨some d,.buildSlice t 1 #[(0,x)],ty,pos,aft,none⟩::rest) F w:=by
 have hus:u.cells.size=sz:=by rw [<-hl, <-hcs];simp
 have hr:=Ad (P:=P) (w:=w) ht.h he hus hsz hsz2;have hn:New w (w.alloc (.cells u.cells e)):=Chg.alloc _ _ _;refine Wl.val (w':=w.alloc (.cells u.cells e)) ?_ (c _ _ ⟨cs,⟨by simpa using hl,.inr ⟨w.heap.size,1,u.cells,rfl,aap _,heap_alloc_new w _,aap _,by unfold maxLen;omega,by simpa using hus,by rw [hcs,anL];simp [hl]⟩⟩,fun i x hx=>?_⟩ hn (by simp) rfl)
 ·simp only [execOp,am9,acd,anc,hx,Sem.run_bind,hr,Result.andThen_ok,Sem.run_pure,anM]
 ·match i with
  |0=>simp at hx;subst hx;simp only [anV,anK];rw [anL (by omega)];have h1:=hR.st _ _ _ _ _ hn.keep hy;exact hR.mo _ _ _ _ _ (fun b _ hb=>⟨hb.1,fun e=>hb.2 (by simpa [Value.ownBlock] using e)⟩) h1
  |i+1=>simp at hx
end
theorem wR (cs:List Value) (o:Nat) (new:List Value) (h:o+new.length<=cs.length) (q:Nat):(rZ cs o new)[q]? =if o<=q/\q<o+new.length then new[q-o]? else cs[q]? :=by
 unfold rZ;rw [adK,anW];simp only [anD];split
 ·rename_i h1
  rw [if_neg (by omega),aaQ,if_pos (by omega)]
 ·rename_i h1
  rw [anW];split
  ·rename_i h2
   rw [if_pos (by omega)];congr 1;omega
  ·rename_i h2
   rw [if_neg (by omega),ad6];congr 1;omega
theorem Gy (cs:List Value) (o:Nat) (new:List Value) (h:o+new.length<=cs.length):(rZ cs o new).length=cs.length:=by
 unfold rZ;simp;omega
section
variable {P:Program} {n:Nat} {ds:List Deferred} {Q:Po} {F:Fr} {w w':World} {ops rest:List Oper} {d d1 d2:Nat} {ty ty1 ty2:TypeId} {pos pos1 pos2:String} {aft Hl Ho:Array Edge}
theorem uH.CU {Pb:Nat->Prop} {e:TypeId} {sz m g cap o:Nat} {v:Value} {cs new:List Value} (h:uH Pb w e sz v m cs) (hv:v=.slice (some ⟨g,0,none⟩) m cap) (ho:o+new.length<=m*sz) (h1: ∀c∈new,c.oneCell'=true):
 ∃w',(storeCells ⟨g,o,none⟩ new 0).run P w=.ok () w'/\uH Pb w' e sz v m (rZ cs o new)/\Chg (fun b=>v.ownBlock=some b) w w':=by
 obtain ⟨hl,hoc⟩:=h;rcases hoc with ⟨rfl,_⟩|⟨g',cap',cur,rfl,hb,hg,h2,h3,h4,h5⟩
 ·cases hv
 ·cases hv;have hms:m*sz<=cap*sz:=aaw _ h2;have hr:=run_storeCells_at P g o e new 0 cur w hg (by omega) h1;have hcl:cs.length=m*sz:=hl;refine ⟨_,hr,⟨by rw [Gy _ _ _ (by omega)];exact hl,.inr ⟨g,cap,_,rfl,hb,setRow_heap w g cur _ e _ hg,h2,h3,?_,?_⟩⟩,Chg.setRow rfl⟩
  ·simp;omega
  ·simp only [anN];apply anC;intro q;rw [wR cs o new (by omega)];rw [aaQ];have hcur: ∀q,q<m*sz->cs[q]? =cur.toList[q]? :=fun q hq=>by rw [<-h5,aaQ,if_pos hq]
   split
   ·rename_i hq
    have:=wR cur.toList o new (by simp;omega) q;unfold rZ at this;rw [this];split
    ·rfl
    ·exact (hcur q hq).symm
   ·rename_i hq
    rw [if_neg (by omega),anl (by omega)]
theorem fC {α:Type} {f:α->List Value} {Pb Pe:Nat->Prop} {xs:List α} {x y:Operand} {e sz bytes:Nat} {agg:Bool} {z v u:Value} {g j cap:Nat} {q:α} [he:ElT P e sz bytes agg z] (hf: ∀x,(f x).length=sz) (h1: ∀x, ∀c∈f x,c.oneCell'=true)
 (hown:nP (flat f) e sz Pb Pe w v xs) (hv:v=.slice (some ⟨g,0,none⟩) xs.length cap) (hj:j<xs.length)
 (hx:ev n F x=.pointer (some ⟨g,j*sz,none⟩)) (hy:ev n F y=u) (hq:u.cells=(f q).toArray) (c: ∀w',nP (flat f) e sz Pb Pe w' v (xs.set j q)->Chg (fun b=>v.ownBlock=some b) w w'->Wl P n ds Q ops rest F w'):
 Wl P n ds Q ops (⟨none,.store e x y,ty,pos,aft,none⟩::rest) F w:=by
 obtain ⟨cs,hoc,hel⟩:=hown;have hjs:(j+1)*sz<=xs.length*sz:=aaw _ hj;rw [aaR] at hjs;have hcl:cs.length=xs.length*sz:=hoc.1;obtain ⟨w',hr,KP,hc⟩:=hoc.CU (P:=P) (o:=j*sz) (new:=f q) hv (by rw [hf];omega) (h1 q);refine fO (w':=w') ?_ (c w' ⟨rZ cs (j*sz) (f q),by simpa using KP,fun i x hx=>?_⟩ hc)
 ·have hs:u.cells.size=sz:=by rw [hq];simpa using hf q
  simp only [execOp,hx,hy,Instr.storeAt,Instr.sureAddr,storeVar,Sem.run_bind,Sem.run_pure,Result.andThen_ok,he.sizeOf,hq];rw [if_neg (by simp [hf])];simp only [hr,Result.andThen_ok]
 ·have hi:i<xs.length:=by have:=(List.getElem?_eq_some_iff.1 hx).1;simpa using this
  have hi2:(i+1)*sz<=xs.length*sz:=aaw _ hi;rw [aaR] at hi2;rw [anO] at hx;show _=f x;apply anC;intro k;rw [aaQ,ad6,wR _ _ _ (by rw [hf];omega),hf];by_cases hk:k<sz
  ·rw [if_pos hk];split at hx
   ·rename_i e
    subst e;simp only [hj,if_true,Option.some.injEq] at hx;subst hx;rw [if_pos (by omega)];congr 1;omega
   ·rename_i hne
    have hsep: ¬(j*sz<=i*sz+k/\i*sz+k<j*sz+sz):=by
     rintro ⟨a1,a2⟩;rcases aor hne with h|h
     ·have:(j+1)*sz<=i*sz:=aaw _ h;rw [aaR] at this;omega
     ·have:(i+1)*sz<=j*sz:=aaw _ h;rw [aaR] at this;omega
    rw [if_neg hsep];have h2:(cs.drop (i*sz)).take sz=f x:=hel i x hx;rw [<-h2,aaQ,if_pos hk,ad6]
  ·rw [if_neg hk,anl (by rw [hf];omega)]
theorem dX {α:Type} {f:α->List Value} {Pb Pe:Nat->Prop} {xs:List α} {x y:Operand} {e e' sz bytes:Nat} {agg:Bool} {z v u:Value} {g j o cap:Nat} {p q:α} [he:ElT P e' 1 bytes agg z] (hf: ∀x,(f x).length=sz) (ho:o<sz) (hu:u.oneCell'=true) (hp:xs[j]? =some p) (hpq:f q=(f p).set o u)
 (hown:nP (flat f) e sz Pb Pe w v xs) (hv:v=.slice (some ⟨g,0,none⟩) xs.length cap)
 (hx:ev n F x=.pointer (some ⟨g,j*sz+o,none⟩)) (hy:ev n F y=u) (c: ∀w',nP (flat f) e sz Pb Pe w' v (xs.set j q)->Chg (fun b=>v.ownBlock=some b) w w'->Wl P n ds Q ops rest F w'):
 Wl P n ds Q ops (⟨none,.store e' x y,ty,pos,aft,none⟩::rest) F w:=by
 obtain ⟨cs,hoc,hel⟩:=hown;have hj:j<xs.length:=(List.getElem?_eq_some_iff.1 hp).1;have hjs:(j+1)*sz<=xs.length*sz:=aaw _ hj;rw [aaR] at hjs;have hcl:cs.length=xs.length*sz:=hoc.1;have huc:u.cells= #[u]:=by cases u<;>simp_all [Value.cells,Value.oneCell']
 obtain ⟨w',hr,KP,hc⟩:=hoc.CU (P:=P) (o:=j*sz+o) (new:=[u]) hv (by simp;omega) (by simpa using hu);refine fO (w':=w') ?_ (c w' ⟨rZ cs (j*sz+o) [u],by simpa using KP,fun i x hx=>?_⟩ hc)
 ·simp only [execOp,hx,hy,Instr.storeAt,Instr.sureAddr,storeVar,Sem.run_bind,Sem.run_pure,Result.andThen_ok,he.sizeOf,huc];rw [if_neg (by simp)];simp only [hr,Result.andThen_ok]
 ·have hi:i<xs.length:=by have:=(List.getElem?_eq_some_iff.1 hx).1;simpa using this
  have hi2:(i+1)*sz<=xs.length*sz:=aaw _ hi;rw [aaR] at hi2;rw [anO] at hx;show _=f x;apply anC;intro k;rw [aaQ,ad6,wR _ _ _ (by simp;omega),anM];by_cases hk:k<sz
  ·rw [if_pos hk];split at hx
   ·rename_i e
    subst e;simp only [hj,if_true,Option.some.injEq] at hx;subst hx;rw [hpq,anO];have h2:(cs.drop (j*sz)).take sz=f p:=hel j p hp;by_cases hko:k=o
    ·subst hko;rw [if_pos (by omega),if_pos rfl,if_pos (by rw [hf];exact hk),show j*sz+k-(j*sz+k)=0 by omega];rfl
    ·rw [if_neg (by omega),if_neg (Ne.symm hko), <-h2,aaQ,if_pos hk,ad6]
   ·rename_i hne
    have hsep: ¬(j*sz+o<=i*sz+k/\i*sz+k<j*sz+o+1):=by
     rintro ⟨a1,a2⟩;rcases aor hne with h|h
     ·have:(j+1)*sz<=i*sz:=aaw _ h;rw [aaR] at this;omega
     ·have:(i+1)*sz<=j*sz:=aaw _ h;rw [aaR] at this;omega
    rw [if_neg hsep];have h2:(cs.drop (i*sz)).take sz=f x:=hel i x hx;rw [<-h2,aaQ,if_pos hk,ad6]
  ·rw [if_neg hk,anl (by rw [hf];omega)]
theorem Jt {α:Type} {f:α->List Value} {Pb Pe:Nat->Prop} {xs:List α} {t e sz bytes:Nat} {agg:Bool} {z v:Value} {g cap i:Nat} (ht:P.underlying t=some (.slice e)) (he:ElT P e sz bytes agg z) (hz: ∀c∈z.cells.toList,c.oneCell'=true)
 (hown:nP (flat f) e sz Pb Pe w v xs) (hv:v=.slice (some ⟨g,0,none⟩) xs.length cap) (hi:i<=xs.length) (p:Addr) (hp:p=⟨g,i*sz,none⟩∨i=xs.length):
 ∃u w',(Builtin.clear_ #[t] ty #[.slice (some p) (xs.length-i) (cap-i)]).run P w=.ok u w'/\nP (flat f) e sz Pb Pe w' (.slice (some ⟨g,0,none⟩) i cap) (xs.take i)/\Chg (fun b=>v.ownBlock=some b) w w':=by
 have htk: ∀w',nP (flat f) e sz Pb Pe w' v xs->nP (flat f) e sz Pb Pe w' (.slice (some ⟨g,0,none⟩) i cap) (xs.take i):=fun w' h=>h.take hi hv (by intro e;cases e);by_cases hie:i=xs.length
 ·refine ⟨.tuple #[],w,?_,htk w hown,ay _ _⟩;subst hie;simp [Builtin.clear_,run_underlying ht]
 ·have hp':p=⟨g,i*sz,none⟩:=hp.resolve_right hie;subst hp';obtain ⟨cs,hoc,hel⟩:=hown;have hcl:cs.length=xs.length*sz:=hoc.1;have hle:i*sz<=xs.length*sz:=aaw _ hi;have hzl:(Builtin.zeroCells z.cells (xs.length-i)).toList.length=(xs.length-i)*sz:=by rw [anT,size_zeroCells,he.hz]
  obtain ⟨w',hr,KP,hc⟩:=hoc.CU (P:=P) (o:=i*sz) (new:=(Builtin.zeroCells z.cells (xs.length-i)).toList) hv (by rw [hzl,aog];omega) (by
   intro c hc;simp only [Builtin.zeroCells,Array.toList_map,aoo] at hc;obtain ⟨q,hq,rfl⟩:=hc;have hsz:0<z.cells.size:=by
    rcases anY z.cells.size with h0|h0
    ·simp [h0] at hq
    ·exact h0
   have hm:=Nat.mod_lt q hsz;refine hz _ ?_;rw [getElem!_pos z.cells (q % z.cells.size) hm];simp)
  have hne:xs.length-i≠0:=by omega
  refine ⟨.tuple #[],w',?_,?_,hc⟩
  ·obtain ⟨k,hk⟩: ∃k,xs.length-i=k+1:=⟨xs.length-i-1,by omega⟩;rw [hk] at hr ⊢;simp [Builtin.clear_,run_underlying ht,he.zeroValue,hr]
  ·refine ⟨cs.take (i*sz),⟨by rw [anD,anD,anh (by omega),anh hi],?_⟩,fun q x hx=>?_⟩
   ·rcases KP.2 with ⟨e1,_⟩|⟨g',cap',cur,e1,hb,hg,h1,h2,h3,h4⟩
    ·rw [hv] at e1;cases e1
    ·rw [hv] at e1;cases e1;have hl:(xs.take i).length=i:=by simp;omega
     rw [hl];refine .inr ⟨g,cap,cur,rfl,hb,hg,by omega,h2,h3,?_⟩;have:cur.toList.take (i*sz)=(rZ cs (i*sz) (Builtin.zeroCells z.cells (xs.length-i)).toList).take (i*sz):=by rw [<-h4,anr,anh hle]
     rw [this];unfold rZ;rw [adK,anX (by simp;omega),anr,Nat.min_self]
   ·rw [aaQ] at hx;split at hx
    ·rename_i hq
     have h1:=hel q x hx;have:(q+1)*sz<=i*sz:=aaw _ hq;rw [aaR] at this;show _=f x;rw [anE,anr,anh (by omega)];exact h1
    ·cases hx
theorem jM {α:Type} {f:α->List Value} {Pb Pe:Nat->Prop} {xs:List α} {x lo:Operand} {t e sz bytes:Nat} {agg:Bool} {z v:Value} {k:IntKind} {g cap i:Nat} [ht:Und P t (.slice e)] [he:ElT P e sz bytes agg z] (hz: ∀c∈z.cells.toList,c.oneCell'=true)
 (hown:nP (flat f) e sz Pb Pe w v xs) (hv:v=.slice (some ⟨g,0,none⟩) xs.length cap) (hx:ev n F x=v) (hl:ev n F lo=.int k i) (hi:i<=xs.length) (hd:ada d1 n=true)
 (c: ∀u w',nP (flat f) e sz Pb Pe w' (.slice (some ⟨g,0,none⟩) i cap) (xs.take i)->Chg (fun b=>v.ownBlock=some b) w w'->Wl P n ds Q ops rest (upd F d1 u) w'):
 Wl P n ds Q ops (⟨some d1,.slice t x (some lo) none none,ty1,pos1,Hl,none⟩::⟨none,.call {callee:=.builtin .clear,args:= #[.tmp d1],argTypes:= #[t]},ty2,pos2,Ho,none⟩::rest) F w:=by
 obtain ⟨_,cap',e1,hcap,_⟩:=hown.form;have hcap2:xs.length<=cap:=by rw [hv] at e1;cases e1;exact hcap
 have hs:=uI (P:=P) (w:=w) (p:=some ⟨g,0,none⟩) (l:=xs.length) (cap:=cap) (lo:=some (.int k i)) (hi:=none) (a:=i) (b:=xs.length) ht.h he (.inr ⟨k,rfl⟩) (.inl ⟨rfl,rfl⟩) hi hcap2;have hp:(if cap=i then some (⟨g,0,none⟩:Addr) else aom (·.add (i*sz)) (some (⟨g,0,none⟩:Addr)))=some (if cap=i then ⟨g,0,none⟩ else ⟨g,i*sz,none⟩):=by
  split
  ·rfl
  ·rw [am6,addr_add,ace]
 rw [hp] at hs;obtain ⟨u,w',hr,ho,hc⟩:=Jt (P:=P) (ty:=ty2) (w:=w) ht.h he hz hown hv hi (if cap=i then ⟨g,0,none⟩ else ⟨g,i*sz,none⟩) (by
  by_cases hci:cap=i
  ·right;omega
  ·left;rw [if_neg hci])
 refine Wl.val (w':=w) (v:=.slice (some (if cap=i then ⟨g,0,none⟩ else ⟨g,i*sz,none⟩)) (xs.length-i) (cap-i)) ?_ ?_
 ·simp only [execOp,hx,hl,hv,ani,am6,Sem.run_bind,hs,Result.andThen_ok,Sem.run_pure]
 ·refine jD (dst:=none) (w':=w') (v:=u) ?_ (c _ w' ho hc);have ed:ev n (upd F d1 (.slice (some (if cap=i then ⟨g,0,none⟩ else ⟨g,i*sz,none⟩)) (xs.length-i) (cap-i))) (.tmp d1)=.slice (some (if cap=i then ⟨g,0,none⟩ else ⟨g,i*sz,none⟩)) (xs.length-i) (cap-i):=by simp only [ev,hd,Aw,if_pos]
  simp only [execOp,resolve,invoke,builtin,Sem.run_bind,Sem.run_pure,Result.andThen_ok,am9,acd,anc,ed,hr]
theorem jO {x hi:Operand} {t e sz bytes:Nat} {agg:Bool} {z:Value} {k:IntKind} {p:Option Addr} {l cap b:Nat} [ht:Und P t (.slice e)] [he:ElT P e sz bytes agg z] (hx:ev n F x=.slice p l cap) (hh:ev n F hi=.int k b) (h1:b<=cap)
 (c:Wl P n ds Q ops rest (upd F d (.slice p b cap)) w):Wl P n ds Q ops (⟨some d,.slice t x none (some hi) none,ty,pos,aft,none⟩::rest) F w:=by
 have:=uI (P:=P) (w:=w) (p:=p) (l:=l) (lo:=none) (hi:=some (.int k b)) (a:=0) (b:=b) ht.h he (.inl ⟨rfl,rfl⟩) (.inr ⟨k,rfl⟩) (anq _) h1;have hp:(if cap=0 then p else p.map (·.add (0*sz)))=p:=by
  split
  ·rfl
  ·cases p with
   |none=>rfl
   |some a=>simp [Addr.add]
 refine Wl.val (w':=w) (v:=.slice p b cap) ?_ c;simp only [execOp,hx,hh,ani,am6,Sem.run_bind,this,Result.andThen_ok,Sem.run_pure,hp,aoq]
end
section
variable {P:Program} {ops:Array Oper} {C:World->Prop} {Q:Exit->Act->World->Prop}
def isQ (ops:Array Oper) (i:Nat):Bool:=match ops[i]? with|some o=>readB o.op|none=>false
def TS (P:Program) (ops:Array Oper) (C:World->Prop) (Q:Exit->Act->World->Prop):List Nat->Act->World->Prop
 | [],a,w=>Q .normal a w
 |i::l,a,w=>if isQ ops i=true then (∃o v,ops[i]? =some o/\YieldsIn P ops C o v a/\TS P ops C Q l (a.put o.dst v) w)
  else if i+1=ops.size then wpOp P ops Q i (fun a' w'=>Q .normal a' w') a w else wpOp P ops QF i (fun a' w'=>C w'/\TS P ops C Q l a' w') a w
def wd (a:Act) (ds:List Deferred):Act:={a with defers:=ds}
theorem aaA (a:Act) (d:Option Tmp) (v:Value) (ds:List Deferred):wd (a.put d v) ds=(wd a ds).put d v:=by cases d<;>rfl
structure Free (ops:Array Oper) (i j:Nat):Prop where
 ex: ∃oi oj,ops[i]? =some oi/\ops[j]? =some oj/\oi.apart ops oj=true/\oj.apart ops oi=true/\(∀cs b,oi.op≠ .select cs b)/\(∀cs b,oj.op≠ .select cs b)
 one:isQ ops i=true∨isQ ops j=true
 nl:i+1≠ops.size
theorem rH {oi oj:Oper} {v u:Value} {a:Act} (h:oi.apart ops oj=true) (hs: ∀cs b,oj.op≠ .select cs b):YieldsIn P ops C oj v (a.put oi.dst u)↔YieldsIn P ops C oj v a:=by
 obtain ⟨h1,_,_⟩:=Oper.apart_spec h;have e1:=execOp_put oj hs a oi.dst u h1;have e2:=wanted_put oj a oi.dst u h1;exact ⟨fun y=>y.of_same e1.symm e2.symm,fun y=>y.of_same e1 e2⟩
theorem BD {o:Oper} {v:Value} {a:Act} {ds:List Deferred}:YieldsIn P ops C o v (wd a ds)↔YieldsIn P ops C o v a:=by
 have e:(wd a ds).eval=a.eval:=by funext x;cases x<;>rfl
 exact ⟨fun y=>y.of_same (by rw [e]) rfl,fun y=>y.of_same (by rw [e]) rfl⟩
theorem Ce {o:Oper} {v v':Value} {a:Act} {w:World} (hC:C w) (hr:readB o.op=true) (h:YieldsIn P ops C o v a) (h':YieldsIn P ops C o v' a):v=v':=by
 rcases h with ⟨hw,hv⟩|⟨hw,rfl⟩<;>rcases h' with ⟨hw',hv'⟩|⟨hw',rfl⟩
 ·have h1:=hv w hC;have h2:=hv' w hC;have hne:= @noEnter P o hr a.eval w;unfold Oper.quietAt at h1 h2;generalize (execOp a.eval o).run P w=r at*;cases r with
  |ok n w'=>
   cases n<;>simp only [Oper.quietUpon] at h1 h2
   case value u=>first|exact h1.2.symm.trans h2.2|exact h1.1.symm.trans h2.1
   case skip=>first|exact h1.2.trans h2.2.symm|exact h1.2.symm.trans h2.2
   case enter f args=>exact (hne rfl).elim
  |halt x w'=>simp only [Oper.quietUpon] at h1
 ·rw [hw] at hw';cases hw'
 ·rw [hw] at hw';cases hw'
 ·rfl
theorem FX {i:Nat} {o:Oper} {K:Act->World->Prop} {a:Act} {w:World} (hi:ops[i]? =some o) (h:wpOp P ops QF i K a w): ∃u ds' w',K ((wd a ds').put o.dst u) w':=by
 unfold wpOp at h;simp only [hi] at h;split at h
 ·rcases h with h|⟨_,_,_,hq⟩
  ·unfold Oper.wp at h;generalize hr:(execOp a.eval o).run P w=r at h;cases r with
   |ok nx w'=>
    cases nx with
    |value u=>exact ⟨u,a.defers,w',h⟩
    |skip=>exact ⟨undef,a.defers,w',h⟩
    |enter f args=>
     obtain ⟨e,w'',fr,he,_⟩:=h [];cases e with
     |returned u=>exact ⟨u,a.defers,w'',he⟩
     |panicked c=>exact he.elim
     |outgrown=>obtain ⟨_,_,hq⟩:=he;exact hq.elim
    |row r' args=>obtain ⟨u,w'',he,_⟩:=h (Frame.enter P 0 #[] .normal) [];exact ⟨u,a.defers,w'',he⟩
    |defer d=>exact ⟨undef,d::a.defers,w',h⟩
    |_=>exact h.elim
   |halt x w'=>cases x<;>exact h.elim
  ·exact hq.elim
 ·exact ⟨undef,a.defers,w,h⟩
theorem Hw {i:Nat} {oi oj:Oper} {v:Value} {K K':Act->World->Prop} {a:Act} {w:World} (hi:ops[i]? =some oi) (hap:oj.apart ops oi=true) (hs: ∀cs b,oi.op≠ .select cs b)
 (hK: ∀u ds' w',K ((wd a ds').put oi.dst u) w'->K' (((wd a ds').put oj.dst v).put oi.dst u) w') (h:wpOp P ops QF i K a w):wpOp P ops QF i K' (a.put oj.dst v) w:=by
 obtain ⟨h1,h2,h3⟩:=Oper.apart_spec hap;unfold wpOp at*;simp only [hi] at*;rw [wanted_put oi a oj.dst v h1];split
 ·rename_i hw
  simp only [hw,if_true] at h;rcases h with h|⟨_,a₀,w₀,hq⟩
  ·refine .inl ?_;unfold Oper.wp at*;rw [execOp_put oi hs a oj.dst v h1];generalize (execOp a.eval oi).run P w=r at*;cases r with
   |ok nx w'=>
    cases nx with
    |value u=>exact hK _ a.defers _ h
    |skip=>exact hK _ a.defers _ h
    |enter f args=>exact Calls.mono h (fun e w'' he=>by cases e with|returned u=>exact hK _ a.defers _ he|panicked c=>exact he.elim|outgrown=>obtain ⟨a₀,w₀,hq⟩:=he;exact hq.elim)
    |row r' args=>exact Rows.mono h (fun _ _ he=>hK _ a.defers _ he)
    |defer d=>
     have:=hK undef (d::a.defers) _ h;rw [<-aaA a oj.dst v] at this;have e:(a.put oj.dst v).defers=a.defers:=by cases oj.dst<;>rfl
     simp only [Oper.upon,e];exact this
    |_=>exact h.elim
   |halt x w'=>cases x<;>exact h.elim
  ·exact hq.elim
 ·rename_i hw
  simp only [hw] at h;exact hK _ a.defers _ h
theorem AL {j:Nat} {oj:Oper} {post:List Nat} (hj:ops[j]? =some oj) (hq:isQ ops j=true): ∀(pre:List Nat) (a:Act) (w:World),(∀i∈pre,Free ops i j)->C w->TS P ops C Q (pre++j::post) a w->
 ∃v,YieldsIn P ops C oj v a/\TS P ops C Q (pre++post) (a.put oj.dst v) w
 | [],a,w,_,_,h=>by rw [ang,TS,if_pos hq] at h;obtain ⟨o,v,ho,hy,ht⟩:=h;rw [hj] at ho;cases ho;exact ⟨v,hy,ht⟩
 |i::pre,a,w,hf,hC,h=>by
  obtain ⟨⟨oi,oj',hi,hj',h1,h2,s1,s2⟩,_,hnl⟩:=hf i (by simp);rw [hj] at hj';cases hj';have hrj:readB oj.op=true:=by unfold isQ at hq;rw [hj] at hq;exact hq
  obtain ⟨_,hne,_⟩:=Oper.apart_spec h1;rw [am8,TS] at h;by_cases hqi:isQ ops i=true
  ·rw [if_pos hqi] at h;obtain ⟨o,vi,ho,hy,ht⟩:=h;rw [hi] at ho;cases ho;obtain ⟨v,hyv,hts⟩:=AL hj hq pre _ w (fun k hk=>hf k (by simp [hk])) hC ht;refine ⟨v,(rH h1 s2).1 hyv,?_⟩;rw [am8,TS,if_pos hqi];refine ⟨oi,vi,hi,(rH h2 s1).2 hy,?_⟩;rw [<-Act.put_comm a vi v hne];exact hts
  ·rw [if_neg hqi,if_neg hnl] at h;obtain ⟨u,ds',w',hC',ht'⟩:=FX hi h;obtain ⟨v,hyv,_⟩:=AL hj hq pre _ w' (fun k hk=>hf k (by simp [hk])) hC' ht';have hya:=BD.1 ((rH h1 s2).1 hyv);have key:wpOp P ops QF i (fun a' w'=>C w'/\TS P ops C Q (pre++post) a' w') (a.put oj.dst v) w:=by refine Hw hi h2 s1 ?_ h;rintro u' ds1 w1 ⟨hC1,ht1⟩;obtain ⟨v1,hy1,aaB⟩:=AL hj hq pre _ w1 (fun k hk=>hf k (by simp [hk])) hC1 ht1;have:v1=v:=Ce hC1 hrj (BD.1 ((rH h1 s2).1 hy1)) hya;subst this;refine ⟨hC1,?_⟩;rw [<-Act.put_comm (wd a ds1) u' v1 hne];exact aaB
   refine ⟨v,hya,?_⟩;rw [am8,TS,if_neg hqi,if_neg hnl];exact key
theorem WE {j:Nat} {post:List Nat} (hjn:j<ops.size): ∀(pre:List Nat) (a:Act) (w:World),(∀i∈pre,Free ops i j)->(isQ ops j=false->j+1=ops.size->pre=[]/\post=[])->C w->TS P ops C Q (pre++j::post) a w->
 (isQ ops j=false/\pre++post=[]/\wpOp P ops Q j (fun a' w'=>Q .normal a' w') a w)∨wpOp P ops QF j (fun a' w'=>C w'/\TS P ops C Q (pre++post) a' w') a w:=by
 intro pre a w hf hlast hC h;obtain ⟨oj,hj⟩: ∃oj,ops[j]? =some oj:=⟨ops[j],aaX hjn⟩;cases hq:isQ ops j with
 |true=>
  obtain ⟨v,hy,ht⟩:=AL hj hq pre a w hf hC h;have hrj:readB oj.op=true:=by unfold isQ at hq;rw [hj] at hq;exact hq
  exact .inr (iD hj hy hrj hC ⟨hC,ht⟩)
 |false=>
  have hl:=hlast hq;clear hlast;by_cases hpost:j+1=ops.size
  ·obtain ⟨rfl,rfl⟩:=hl hpost;rw [ang,TS,if_neg (by rw [hq];simp),if_pos hpost] at h;exact .inl ⟨rfl,rfl,h⟩
  ·right;clear hl;induction pre generalizing a with
   |nil=>rw [ang,TS,if_neg (by rw [hq];simp),if_neg hpost] at h;exact h
   |cons i pre ih=>
    obtain ⟨⟨oi,oj',hi,hj',h1,h2,s1,s2⟩,hone,_⟩:=hf i (by simp);rw [hj] at hj';cases hj';have hqi:isQ ops i=true:=by rcases hone with h|h;exact h;rw [hq] at h;cases h
    rw [am8,TS,if_pos hqi] at h;obtain ⟨o,vi,ho,hy,ht⟩:=h;rw [hi] at ho;cases ho;have:=ih _ (fun k hk=>hf k (by simp [hk])) ht;refine wpOp_mono (fun a' w' h'=>?_) (wpOp_put hj h1 s1 s2 hy this);obtain ⟨hy',hC',ht'⟩:=h';refine ⟨hC',?_⟩;rw [am8,TS,if_pos hqi];exact ⟨oi,vi,hi,hy',ht'⟩
def Hy (ops:Array Oper) (i j:Nat):Bool:=(ahead ops ops.size [j]).contains i||
 ((isQ ops i||isQ ops j)&&match ops[i]?,ops[j]? with|some oi,some oj=>oi.apart ops oj&&oj.apart ops oi|_,_=>false)
def okT (ops:Array Oper):Bool:=
 Region.noSelect ops&&(ab8 ops.size).all (fun j=>(ab8 j).all fun i=>Hy ops i j)&&
 (ab8 ops.size).all (fun j=>match ops[j]? with|some o=>o.after.all fun e=> !Region.binds .any e||decide (e.on<j)|none=>true)&&
 (isQ ops (ops.size-1)||(ab8 ops.size).all fun k=>(ahead ops ops.size [ops.size-1]).contains k)
def left (ops:Array Oper) (listed:Array Bool):List Nat:=(ab8 ops.size).filter fun i=> !listed.getD i true
theorem Hz {listed:Array Bool} {i:Nat} (hs:listed.size=ops.size) (hi:i<ops.size):left ops (listed.setIfInBounds i true)=(left ops listed).filter (fun k=>k != i):=by
 unfold left;rw [List.filter_filter];apply List.filter_congr;intro k hk;by_cases hki:k=i
 ·subst hki;simp [ab9,hs,hi]
 ·have h1:=getD_set_ne (listed:=listed) (i:=i) (j:=k) true (Ne.symm hki);rw [h1];simp [hki]
theorem zI {l pre post:List Nat} {i:Nat} (h:l.Nodup) (e:l=pre++i::post):l.filter (fun k=>k != i)=pre++post:=by
 subst e;have h':=List.nodup_append.1 h;have hi:i∉post:=(List.nodup_cons.1 h'.2.1).1;have hp:i∉pre:=fun hm=>h'.2.2 i hm i (by simp) rfl;rw [List.filter_append,List.filter_cons,if_neg (by simp)];congr 1
 ·refine List.filter_eq_self.2 fun k hk=>?_;have:k≠i:=fun e=>hp (by rw [<-e];exact hk);simpa using this
 ·refine List.filter_eq_self.2 fun k hk=>?_;have:k≠i:=fun e=>hi (by rw [<-e];exact hk);simpa using this
theorem FY (hok:okT ops=true): ∀(fuel:Nat) (listed:Array Bool) (a:Act) (w:World),listed.size=ops.size->(left ops listed).length=fuel->Ap ops listed->(fuel≠0->C w)->TS P ops C Q (left ops listed) a w->wpAny P .any ops Q fuel listed a w:=by
 simp only [okT,ann] at hok;obtain ⟨⟨⟨hns,NF⟩,hdown⟩,hlast⟩:=hok;have hsel:=Region.noSelect_spec hns;have rdy: ∀listed:Array Bool,listed.size=ops.size-> ∀i,i∈Region.ready .any ops listed->i∈left ops listed:=by intro listed hs i hi;obtain ⟨h0,o,ho,_⟩:=mem_ready.1 hi;unfold left;rw [anj,ano];exact ⟨(Array.getElem?_eq_some_iff.1 ho).1,by simp [h0]⟩
 intro fuel;induction fuel with
 |zero=>intro listed a w hs hl hcl hC h;have hnil:left ops listed=[]:=anf hl;rw [hnil] at h;refine ⟨?_,h⟩;rw [aos];intro i hi;have:=rdy listed hs i hi;rw [hnil] at this;cases this
 |succ fuel ih=>
  intro listed a w hs hl hcl hC h;replace hC:=hC (by simp);refine ⟨fun h0=>?_,fun j hj=>?_⟩
  ·exfalso;cases hL:left ops listed with
   |nil=>rw [hL] at hl;cases hl
   |cons i l=>
    have hmem:i∈left ops listed:=by rw [hL];simp
    have hmem':=hmem;unfold left at hmem;rw [anj,ano] at hmem;have hall: ∀k,k<i->listed.getD k false=true:=by
     intro k hk;have hks:k<ops.size:=by omega
     cases hb:listed.getD k true with
     |true=>simpa [ab9,hs,hks] using hb
     |false=>
      have hkm:k∈left ops listed:=by unfold left;rw [anj,ano];exact ⟨hks,by simp [hb]⟩
      have hsort:(left ops listed).Pairwise (· < ·):=List.Pairwise.sublist anz anQ;rw [hL] at hkm hsort;rcases List.mem_cons.1 hkm with e|e
      ·omega
      ·have:=(List.pairwise_cons.1 hsort).1 k e;omega
    have:i∈Region.ready .any ops listed:=by refine mem_ready.2 ⟨by simpa using hmem.2,ops[i],aaX hmem.1,fun e he hb=>?_⟩;have h3:=List.all_eq_true.1 hdown i (List.mem_range.2 hmem.1);rw [aaX hmem.1] at h3;have h4:=Array.all_eq_true'.1 h3 e he;rw [hb] at h4;exact hall e.on (by simpa using h4)
    rw [h0] at this;cases this
  ·obtain ⟨pre,post,hL⟩:=aot (rdy listed hs j hj);rw [hL] at h;obtain ⟨_,oj,hoj,_⟩:=mem_ready.1 hj;have hjs:j<ops.size:=(Array.getElem?_eq_some_iff.1 hoj).1;have hnd:(left ops listed).Nodup:=List.Nodup.sublist anz aou;have hsort:(left ops listed).Pairwise (· < ·):=List.Pairwise.sublist anz anQ;have KT: ∀i∈left ops listed,i<ops.size/\listed.getD i true=false:=fun i hi=>by unfold left at hi;rw [anj,ano] at hi;exact ⟨hi.1,by simpa using hi.2⟩
   have xY: ∀k,k∈ahead ops ops.size [j]->k=j∨listed.getD k false=true:=xh hcl hj _ _ (by simp);have hfree: ∀i∈pre,Free ops i j:=by
    intro i hi;have him:i∈left ops listed:=by rw [hL];simp [hi]
    obtain ⟨his,hun⟩:=KT i him;have hij:i<j:=by rw [hL] at hsort;exact (List.pairwise_append.1 hsort).2.2 i hi j (by simp)
    have h3:=List.all_eq_true.1 (List.all_eq_true.1 NF j (List.mem_range.2 hjs)) i (List.mem_range.2 hij);unfold Hy at h3;simp only [aov,ann,aaX his,aaX hjs] at h3;rcases h3 with h3|⟨h3,h4,h5⟩
    ·exfalso;rcases xY i (by simpa using h3) with e|e
     ·omega
     ·simp [ab9,hs,his] at hun e;rw [hun] at e;cases e
    ·exact ⟨⟨_,_,aaX his,aaX hjs,h4,h5,fun cs b=>hsel i _ cs b (aaX his),fun cs b=>hsel j _ cs b (aaX hjs)⟩,h3,by omega⟩
   have aaC:isQ ops j=false->j+1=ops.size->pre=[]/\post=[]:=by
    intro hq hje;have hj1:ops.size-1=j:=by omega
    rw [hj1,hq,aow] at hlast;have all: ∀i∈left ops listed,i=j:=fun i hi=>by
     obtain ⟨his,hun⟩:=KT i hi;rcases xY i (by simpa using List.all_eq_true.1 hlast i (List.mem_range.2 his)) with e|e
     ·exact e
     ·simp [ab9,hs,his] at hun e;rw [hun] at e;cases e
    rw [hL] at all hnd;have h':=List.nodup_append.1 hnd;constructor
    ·cases pre with
     |nil=>rfl
     |cons i pre=>exact absurd (all i (by simp)) (h'.2.2 i (by simp) j (by simp))
    ·cases post with
     |nil=>rfl
     |cons i post=>have:=all i (by simp);subst this;exact absurd (by simp) (List.nodup_cons.1 h'.2.1).1
   have hset:left ops (listed.setIfInBounds j true)=pre++post:=by rw [Hz hs hjs];exact zI hnd hL
   have hlen:(pre++post).length=fuel:=by have:=hl;rw [hL] at this;simp at this ⊢;omega
   have hcl':=hcl.set hj;rcases WE hjs pre a w hfree aaC hC h with ⟨_,he,hw⟩|hw
   ·refine wpOp_mono (fun a' w' h'=>ih _ a' w' (by simpa using hs) (by rw [hset];exact hlen) hcl' (fun hne=>?_) ?_) hw
    ·rw [he] at hlen;exact absurd hlen.symm hne
    ·rw [hset,he];exact h'
   ·exact zD (fun a' w' h'=>ih _ a' w' (by simpa using hs) (by rw [hset];exact hlen) hcl' (fun _=>h'.1) (by rw [hset];exact h'.2)) hw
end
section
variable {P:Program} {n:Nat} {ds:List Deferred} {Q:Po} {F:Fr} {ops:List Oper} {C:World->Prop} {w:World}
def Wt (P:Program) (n:Nat) (ds:List Deferred) (C:World->Prop) (Q:Po) (ops:List Oper):List Oper->Fr->World->Prop
 | [],F,w=>Q .normal F w
 |o::l,F,w=>if readB o.op=true then Wq P n ds C (fun F'=>Wt P n ds C Q ops l F' w) ops [o] F
  else if l.isEmpty=true then Wl P n ds Q ops [o] F w else Wl P n ds (fun e F' w'=>e=.normal/\C w'/\Wt P n ds C Q ops l F' w') ops [o] F w
theorem bH (h:Q .normal F w):Wt P n ds C Q ops [] F w:=h
theorem iT {o:Oper} {l:List Oper} (hr:readB o.op=true) (h:Wq P n ds C (fun F'=>Wt P n ds C Q ops l F' w) ops [o] F):Wt P n ds C Q ops (o::l) F w:=by
 unfold Wt;rw [if_pos hr];exact h
theorem aa0 {o:Oper} {l:List Oper} (h:Wq P n ds C (fun F'=>Wt P n ds C Q ops l F' w) ops [o] F) (hr:readB o.op=true:=by exact rfl):Wt P n ds C Q ops (o::l) F w:=iT hr h
theorem aC {o o2:Oper} {l:List Oper} (hr:readB o.op=false) (h:Wl P n ds (fun e F' w'=>e=.normal/\C w'/\Wt P n ds C Q ops (o2::l) F' w') ops [o] F w):Wt P n ds C Q ops (o::o2::l) F w:=by
 unfold Wt;rw [if_neg (by rw [hr];simp),if_neg (by simp)];exact h
theorem Wt.last {o:Oper} (hr:readB o.op=false) (h:Wl P n ds Q ops [o] F w):Wt P n ds C Q ops [o] F w:=by
 unfold Wt;rw [if_neg (by rw [hr];simp),if_pos anG];exact h
theorem bG {o:Oper} {l:List Oper} {j:Nat} {b:Bool} (hg:o.guard=some (j,b)) (hy:yld ops n F j=some b) (h:Wt P n ds C Q ops ({o with guard:=none}::l) F w):Wt P n ds C Q ops (o::l) F w:=by
 unfold Wt at h ⊢;split
 ·rename_i hr
  rw [if_pos hr] at h;exact aW hg hy h
 ·rename_i hr
  rw [if_neg hr] at h;split
  ·rename_i he;rw [if_pos he] at h;exact aO hg hy h
  ·rename_i he;rw [if_neg he] at h;exact aO hg hy h
theorem fV {op:Op} {d:Nat} {ty:TypeId} {pos:String} {aft:Array Edge} {l:List Oper} {j:Nat} {b c:Bool} (hy:yld ops n F j=some c) (hbc:(c == b)=false) (hC:C w) (h:Wt P n ds C Q ops l (upd F d undef) w):
 Wt P n ds C Q ops (⟨some d,op,ty,pos,aft,some (j,b)⟩::l) F w:=by
 unfold Wt;split
 ·exact fE hy hbc (af h)
 ·split
  ·rename_i he
   have:l=[]:=by simpa using he
   subst this;unfold Wt at h;exact dH hy hbc (ai h)
  ·exact dH hy hbc (ai ⟨rfl,hC,h⟩)
theorem AO: ∀(l:List Oper) (k:Nat) (F:Fr) (w:World),(∀j,l[j]? =ops[k+j]?)->Wt P n ds C Q ops l F w->TS P ops.toArray C (QA n ds Q) ((ab8 l.length).map (k+ ·)) (act n ds F) w
 | [],k,F,w,_,h=>⟨F,rfl,h⟩
 |o::l,k,F,w,hl,h=>by
  have h0:ops[k]? =some o:=by simpa using (hl 0).symm
  have h0':ops.toArray[k]? =some o:=by simpa using h0
  have hl': ∀j,l[j]? =ops[k+1+j]? :=fun j=>by have:=hl (j+1);simpa [anU,aox 1 j] using this
  have e1:(ab8 (o::l).length).map (k+ ·)=k::(ab8 l.length).map (k+1+ ·):=by rw [anJ,aoy,acd,aoz,anN];congr 1;apply aoA;intro j _;show k+(j+1)=k+1+j;omega
  have hlen:(k+1=ops.toArray.size)↔l=[]:=by
   have h2:=hl' 0;constructor
   ·intro e;have hz:ops.toArray.size=ops.length:=by simp
    have hz2:ops.length<=k+1+0:=by omega
    rw [anl hz2] at h2;cases l with
    |nil=>rfl
    |cons _ _=>simp at h2
   ·intro e;subst e;have hk:=(List.getElem?_eq_some_iff.1 h0).1;have:ops[k+1+0]? =none:=by rw [<-h2];rfl
    have:=List.getElem?_eq_none_iff.1 this;simp;omega
  have hq:isQ ops.toArray k=readB o.op:=by unfold isQ;rw [h0']
  rw [e1,TS,hq];unfold Wt at h;split
  ·rename_i hr
   rw [if_pos hr] at h;unfold Wq at h;have hst:qOp P ops.toArray C k (fun a=> ∃F',a=act n ds F'/\Wt P n ds C Q ops l F' w) (act n ds F):=by unfold qOp;simp only [h0'];exact h
   obtain ⟨v,hy,F',hF,hw⟩:=yieldsIn_of_qOp h0' hst;refine ⟨o,v,h0',hy,?_⟩;rw [hF];exact AO l (k+1) F' w hl' hw
  ·rename_i hr
   rw [if_neg hr] at h;split
   ·rename_i he
    have:=hlen.1 he;subst this;rw [if_pos anG] at h;exact vM h0 h
   ·rename_i he
    rw [if_neg (by simpa using fun e=>he (hlen.2 e))] at h;refine DY ?_ ?_ (vM h0 h)
    ·rintro e a' w' hne ⟨F',_,h',_⟩;exact hne h'
    ·rintro a' w' ⟨F',rfl,_,hC,h'⟩;exact ⟨hC,AO l (k+1) F' w' hl' h'⟩
theorem aV {rid:Nat} (hm:P.follows .mixedOrders=true) (hB:okT ops.toArray=true) (C:World->Prop) (hC:C w.drew) (h: ∀w',New w w'->Wt P n ds C Q ops ops F w'):Wc P n ds Q (.region rid ops.toArray true) F w:=by
 unfold Wc;refine wp_region_any hm ?_;have hleft:left ops.toArray (anp ops.toArray.size false)=(ab8 ops.length).map (0+ ·):=by unfold left;rw [show ((fun x=>0+x):Nat->Nat)=id from funext fun x=>ace x,aoB];simp only [anu];refine List.filter_eq_self.2 fun k hk=>?_;have:=List.mem_range.1 hk;simp [ab9,anB,this]
 have h0:Ap ops.toArray (anp ops.toArray.size false):=by intro j o hj;exfalso;simp only [ab9,anB] at hj;split at hj<;>simp at hj
 refine FY (C:=C) hB _ _ _ _ (by simp) (by rw [hleft];simp) h0 (fun _=>hC) ?_;rw [hleft];exact AO ops 0 F w.drew (fun j=>by rw [ace]) (h _ (Chg.drew _ _))
end
attribute [irreducible] Wt
section
variable {P:Program} {n:Nat} {ds:List Deferred} {Q:Po} {F:Fr} {w w':World} {M:Fr->World->Prop}
def Qm (M:Fr->World->Prop) (Q:Po):Po
 | .normal,F,w=>M F w
 |e,F,w=>Q e F w
theorem bT (h:M F w):Qm M Q .normal F w:=h
theorem fM (h:Q .ret F w):Qm M Q .ret F w:=h
theorem eP {a b:Code} (M:Fr->World->Prop) (h1:Wc P n ds (Qm M Q) a F w) (h2: ∀F w,M F w->Wc P n ds Q b F w):Wc P n ds Q (.seq a b) F w:=by
 unfold Wc at*;refine wp_seq (wp_mono h1 ?_);rintro e a' w' ⟨F',rfl,hM⟩;cases e with
 |normal=>exact h2 F' w' hM
 |_=>exact ⟨F',rfl,hM⟩
attribute [irreducible] Qm
end
section
variable {P:Program} {n:Nat} {ds:List Deferred} {Q:Po} {F:Fr} {w w':World} {ops rest:List Oper} {d:Nat} {ty:TypeId} {pos:String} {aft:Array Edge} {C:World->Prop} {K:Fr->Prop}
theorem iw {op:Op} {j:Nat} {b:Bool} (hy:yld ops n F j=none) (k:Wl P n ds Q ops rest (upd F d undef) w):Wl P n ds Q ops (⟨some d,op,ty,pos,aft,some (j,b)⟩::rest) F w:=by
 have hw:Region.wanted ⟨some d,op,ty,pos,aft,some (j,b)⟩ (yielded ops.toArray (act n ds F).tmps)=false:=by simp only [Region.wanted,act,vK,hy];rfl
 unfold Wl at k ⊢;rw [wpList,if_neg (by rw [hw];simp),xU];exact k
theorem iU {op:Op} {j:Nat} {b:Bool} (hy:yld ops n F j=none) (k:Wq P n ds C K ops rest (upd F d undef)):Wq P n ds C K ops (⟨some d,op,ty,pos,aft,some (j,b)⟩::rest) F:=by
 have hw:Region.wanted ⟨some d,op,ty,pos,aft,some (j,b)⟩ (yielded ops.toArray (act n ds F).tmps)=false:=by simp only [Region.wanted,act,vK,hy];rfl
 unfold Wq at k ⊢;rw [wpQuiet,if_neg (by rw [hw];simp),xU];exact k
theorem lm {op:Op} {l:List Oper} {j:Nat} {b:Bool} (hy:yld ops n F j=none) (hC:C w) (h:Wt P n ds C Q ops l (upd F d undef) w):
 Wt P n ds C Q ops (⟨some d,op,ty,pos,aft,some (j,b)⟩::l) F w:=by
 unfold Wt;split
 ·exact iU hy (af h)
 ·split
  ·rename_i he
   have:l=[]:=by simpa using he
   subst this;unfold Wt at h;exact iw hy (ai h)
  ·exact iw hy (ai ⟨rfl,hC,h⟩)
end
section
variable {P:Program} {ops:Array Oper} {C:Nat->World->Prop} {Q:Exit->Act->World->Prop}
def bd (ops:Array Oper) (i j:Nat):Bool:=(ahead ops ops.size [j]).contains i
def TSn (P:Program) (ops:Array Oper) (C:Nat->World->Prop) (Q:Exit->Act->World->Prop):List Nat->Act->World->Prop
 | [],a,w=>Q .normal a w
 |i::l,a,w=>if isQ ops i=true then (∃o v,ops[i]? =some o/\YieldsIn P ops (C i) o v a/\TSn P ops C Q l (a.put o.dst v) w)
  else if i+1=ops.size then wpOp P ops Q i (fun a' w'=>Q .normal a' w') a w else wpOp P ops QF i (fun a' w'=>((∀k∈l,C k w')/\ ∀k,bd ops k i=false->C k w')/\TSn P ops C Q l a' w') a w
theorem BF {j:Nat} {oj:Oper} {post:List Nat} (hj:ops[j]? =some oj) (hq:isQ ops j=true): ∀(pre:List Nat) (a:Act) (w:World),(∀i∈pre,Free ops i j)->(∀k∈pre++j::post,C k w)->TSn P ops C Q (pre++j::post) a w->
 ∃v,YieldsIn P ops (C j) oj v a/\TSn P ops C Q (pre++post) (a.put oj.dst v) w
 | [],a,w,_,_,h=>by rw [ang,TSn,if_pos hq] at h;obtain ⟨o,v,ho,hy,ht⟩:=h;rw [hj] at ho;cases ho;exact ⟨v,hy,ht⟩
 |i::pre,a,w,hf,hC,h=>by
  obtain ⟨⟨oi,oj',hi,hj',h1,h2,s1,s2⟩,_,hnl⟩:=hf i (by simp);rw [hj] at hj';cases hj';have hrj:readB oj.op=true:=by unfold isQ at hq;rw [hj] at hq;exact hq
  obtain ⟨_,hne,_⟩:=Oper.apart_spec h1;rw [am8,TSn] at h;by_cases hqi:isQ ops i=true
  ·rw [if_pos hqi] at h;obtain ⟨o,vi,ho,hy,ht⟩:=h;rw [hi] at ho;cases ho;obtain ⟨v,hyv,hts⟩:=BF hj hq pre _ w (fun k hk=>hf k (by simp [hk])) (fun k hk=>hC k (by rw [am8];exact aoC _ hk)) ht;refine ⟨v,(rH h1 s2).1 hyv,?_⟩;rw [am8,TSn,if_pos hqi];refine ⟨oi,vi,hi,(rH h2 s1).2 hy,?_⟩;rw [<-Act.put_comm a vi v hne];exact hts
  ·rw [if_neg hqi,if_neg hnl] at h;obtain ⟨u,ds',w',⟨hC',_⟩,ht'⟩:=FX hi h;obtain ⟨v,hyv,_⟩:=BF hj hq pre _ w' (fun k hk=>hf k (by simp [hk])) hC' ht';have hya:=BD.1 ((rH h1 s2).1 hyv);have key:wpOp P ops QF i (fun a' w'=>((∀k∈pre++post,C k w')/\ ∀k,bd ops k i=false->C k w')/\TSn P ops C Q (pre++post) a' w') (a.put oj.dst v) w:=by refine Hw hi h2 s1 ?_ h;rintro u' ds1 w1 ⟨⟨hC1,hB1⟩,ht1⟩;obtain ⟨v1,hy1,aaB⟩:=BF hj hq pre _ w1 (fun k hk=>hf k (by simp [hk])) hC1 ht1;have:v1=v:=Ce (hC1 j (by simp)) hrj (BD.1 ((rH h1 s2).1 hy1)) hya;subst this;refine ⟨⟨fun k hk=>hC1 k (by rcases List.mem_append.1 hk with h|h<;>simp [h]),hB1⟩,?_⟩;rw [<-Act.put_comm (wd a ds1) u' v1 hne];exact aaB
   refine ⟨v,hya,?_⟩;rw [am8,TSn,if_neg hqi,if_neg hnl];exact key
theorem Uy {j:Nat} {post:List Nat} (hjn:j<ops.size): ∀(pre:List Nat) (a:Act) (w:World),(∀i∈pre,Free ops i j)->(∀i∈pre++post,bd ops i j=false)->(isQ ops j=false->j+1=ops.size->pre=[]/\post=[])->(∀k∈pre++j::post,C k w)->TSn P ops C Q (pre++j::post) a w->
 (isQ ops j=false/\pre++post=[]/\wpOp P ops Q j (fun a' w'=>Q .normal a' w') a w)∨wpOp P ops QF j (fun a' w'=>(∀k∈pre++post,C k w')/\TSn P ops C Q (pre++post) a' w') a w:=by
 intro pre a w hf hbd hlast hC h;obtain ⟨oj,hj⟩: ∃oj,ops[j]? =some oj:=⟨ops[j],aaX hjn⟩;cases hq:isQ ops j with
 |true=>
  obtain ⟨v,hy,ht⟩:=BF hj hq pre a w hf hC h;have hrj:readB oj.op=true:=by unfold isQ at hq;rw [hj] at hq;exact hq
  exact .inr (iD hj hy hrj (hC j (by simp)) ⟨fun k hk=>hC k (by rcases List.mem_append.1 hk with h|h<;>simp [h]),ht⟩)
 |false=>
  have hl:=hlast hq;clear hlast;by_cases hpost:j+1=ops.size
  ·obtain ⟨rfl,rfl⟩:=hl hpost;rw [ang,TSn,if_neg (by rw [hq];simp),if_pos hpost] at h;exact .inl ⟨rfl,rfl,h⟩
  ·right;clear hl;have key:wpOp P ops QF j (fun a' w'=>(∀k,bd ops k j=false->C k w')/\TSn P ops C Q (pre++post) a' w') a w:=by
    clear hC;induction pre generalizing a with
    |nil=>rw [ang,TSn,if_neg (by rw [hq];simp),if_neg hpost] at h;exact wpOp_mono (fun a' w' h'=>⟨h'.1.2,h'.2⟩) h
    |cons i pre ih=>
     obtain ⟨⟨oi,oj',hi,hj',h1,h2,s1,s2⟩,hone,_⟩:=hf i (by simp);rw [hj] at hj';cases hj';have hqi:isQ ops i=true:=by rcases hone with h|h;exact h;rw [hq] at h;cases h
     rw [am8,TSn,if_pos hqi] at h;obtain ⟨o,vi,ho,hy,ht⟩:=h;rw [hi] at ho;cases ho;have:=ih _ (fun k hk=>hf k (by simp [hk])) (fun k hk=>hbd k (by rw [am8];exact aoC _ hk)) ht;refine wpOp_mono (fun a' w' h'=>?_) (wpOp_put hj h1 s1 s2 hy this);obtain ⟨hy',hC',ht'⟩:=h';refine ⟨hC',?_⟩;rw [am8,TSn,if_pos hqi];exact ⟨oi,vi,hi,hy',ht'⟩
   exact wpOp_mono (fun a' w' h'=>⟨fun k hk=>h'.1 k (hbd k hk),h'.2⟩) key
theorem KU (hok:okT ops=true): ∀(fuel:Nat) (listed:Array Bool) (a:Act) (w:World),listed.size=ops.size->(left ops listed).length=fuel->Ap ops listed->(∀k∈left ops listed,C k w)->TSn P ops C Q (left ops listed) a w->wpAny P .any ops Q fuel listed a w:=by
 simp only [okT,ann] at hok;obtain ⟨⟨⟨hns,NF⟩,hdown⟩,hlast⟩:=hok;have hsel:=Region.noSelect_spec hns;have rdy: ∀listed:Array Bool,listed.size=ops.size-> ∀i,i∈Region.ready .any ops listed->i∈left ops listed:=by intro listed hs i hi;obtain ⟨h0,o,ho,_⟩:=mem_ready.1 hi;unfold left;rw [anj,ano];exact ⟨(Array.getElem?_eq_some_iff.1 ho).1,by simp [h0]⟩
 intro fuel;induction fuel with
 |zero=>intro listed a w hs hl hcl hC h;have hnil:left ops listed=[]:=anf hl;rw [hnil] at h;refine ⟨?_,h⟩;rw [aos];intro i hi;have:=rdy listed hs i hi;rw [hnil] at this;cases this
 |succ fuel ih=>
  intro listed a w hs hl hcl hC h;refine ⟨fun h0=>?_,fun j hj=>?_⟩
  ·exfalso;cases hL:left ops listed with
   |nil=>rw [hL] at hl;cases hl
   |cons i l=>
    have hmem:i∈left ops listed:=by rw [hL];simp
    have hmem':=hmem;unfold left at hmem;rw [anj,ano] at hmem;have hall: ∀k,k<i->listed.getD k false=true:=by
     intro k hk;have hks:k<ops.size:=by omega
     cases hb:listed.getD k true with
     |true=>simpa [ab9,hs,hks] using hb
     |false=>
      have hkm:k∈left ops listed:=by unfold left;rw [anj,ano];exact ⟨hks,by simp [hb]⟩
      have hsort:(left ops listed).Pairwise (· < ·):=List.Pairwise.sublist anz anQ;rw [hL] at hkm hsort;rcases List.mem_cons.1 hkm with e|e
      ·omega
      ·have:=(List.pairwise_cons.1 hsort).1 k e;omega
    have:i∈Region.ready .any ops listed:=by refine mem_ready.2 ⟨by simpa using hmem.2,ops[i],aaX hmem.1,fun e he hb=>?_⟩;have h3:=List.all_eq_true.1 hdown i (List.mem_range.2 hmem.1);rw [aaX hmem.1] at h3;have h4:=Array.all_eq_true'.1 h3 e he;rw [hb] at h4;exact hall e.on (by simpa using h4)
    rw [h0] at this;cases this
  ·obtain ⟨pre,post,hL⟩:=aot (rdy listed hs j hj);rw [hL] at h hC;obtain ⟨_,oj,hoj,_⟩:=mem_ready.1 hj;have hjs:j<ops.size:=(Array.getElem?_eq_some_iff.1 hoj).1;have hnd:(left ops listed).Nodup:=List.Nodup.sublist anz aou;have hsort:(left ops listed).Pairwise (· < ·):=List.Pairwise.sublist anz anQ;have KT: ∀i∈left ops listed,i<ops.size/\listed.getD i true=false:=fun i hi=>by unfold left at hi;rw [anj,ano] at hi;exact ⟨hi.1,by simpa using hi.2⟩
   have xY: ∀k,k∈ahead ops ops.size [j]->k=j∨listed.getD k false=true:=xh hcl hj _ _ (by simp);have hfree: ∀i∈pre,Free ops i j:=by
    intro i hi;have him:i∈left ops listed:=by rw [hL];simp [hi]
    obtain ⟨his,hun⟩:=KT i him;have hij:i<j:=by rw [hL] at hsort;exact (List.pairwise_append.1 hsort).2.2 i hi j (by simp)
    have h3:=List.all_eq_true.1 (List.all_eq_true.1 NF j (List.mem_range.2 hjs)) i (List.mem_range.2 hij);unfold Hy at h3;simp only [aov,ann,aaX his,aaX hjs] at h3;rcases h3 with h3|⟨h3,h4,h5⟩
    ·exfalso;rcases xY i (by simpa using h3) with e|e
     ·omega
     ·simp [ab9,hs,his] at hun e;rw [hun] at e;cases e
    ·exact ⟨⟨_,_,aaX his,aaX hjs,h4,h5,fun cs b=>hsel i _ cs b (aaX his),fun cs b=>hsel j _ cs b (aaX hjs)⟩,h3,by omega⟩
   have aaC:isQ ops j=false->j+1=ops.size->pre=[]/\post=[]:=by
    intro hq hje;have hj1:ops.size-1=j:=by omega
    rw [hj1,hq,aow] at hlast;have all: ∀i∈left ops listed,i=j:=fun i hi=>by
     obtain ⟨his,hun⟩:=KT i hi;rcases xY i (by simpa using List.all_eq_true.1 hlast i (List.mem_range.2 his)) with e|e
     ·exact e
     ·simp [ab9,hs,his] at hun e;rw [hun] at e;cases e
    rw [hL] at all hnd;have h':=List.nodup_append.1 hnd;constructor
    ·cases pre with
     |nil=>rfl
     |cons i pre=>exact absurd (all i (by simp)) (h'.2.2 i (by simp) j (by simp))
    ·cases post with
     |nil=>rfl
     |cons i post=>have:=all i (by simp);subst this;exact absurd (by simp) (List.nodup_cons.1 h'.2.1).1
   have hbd: ∀i∈pre++post,bd ops i j=false:=by
    intro i hi;have him:i∈left ops listed:=by rw [hL];rcases List.mem_append.1 hi with h|h<;>simp [h]
    obtain ⟨his,hun⟩:=KT i him;cases hb:bd ops i j with
    |false=>rfl
    |true=>
     exfalso;unfold bd at hb;rcases xY i (by simpa using hb) with e|e
     ·subst e;rw [hL] at hnd;have h':=List.nodup_append.1 hnd;rcases List.mem_append.1 hi with h|h
      ·exact h'.2.2 i h i (by simp) rfl
      ·exact (List.nodup_cons.1 h'.2.1).1 h
     ·simp [ab9,hs,his] at hun e;rw [hun] at e;cases e
   have hset:left ops (listed.setIfInBounds j true)=pre++post:=by rw [Hz hs hjs];exact zI hnd hL
   have hlen:(pre++post).length=fuel:=by have:=hl;rw [hL] at this;simp at this ⊢;omega
   have hcl':=hcl.set hj;rcases Uy hjs pre a w hfree hbd aaC hC h with ⟨_,he,hw⟩|hw
   ·refine wpOp_mono (fun a' w' h'=>ih _ a' w' (by simpa using hs) (by rw [hset];exact hlen) hcl' (fun k hk=>?_) ?_) hw
    ·rw [hset,he] at hk;simp at hk
    ·rw [hset,he];exact h'
   ·exact zD (fun a' w' h'=>ih _ a' w' (by simpa using hs) (by rw [hset];exact hlen) hcl' (by rw [hset];exact h'.1) (by rw [hset];exact h'.2)) hw
end
section
variable {P:Program} {n:Nat} {ds:List Deferred} {Q:Po} {F:Fr} {ops:List Oper} {C:Nat->World->Prop} {w:World}
def Wu (P:Program) (n:Nat) (ds:List Deferred) (C:Nat->World->Prop) (Q:Po) (ops:List Oper):Nat->List Oper->Fr->World->Prop
 |_,[],F,w=>Q .normal F w
 |k,o::l,F,w=>if readB o.op=true then Wq P n ds (C k) (fun F'=>Wu P n ds C Q ops (k+1) l F' w) ops [o] F
  else if l.isEmpty=true then Wl P n ds Q ops [o] F w else Wl P n ds (fun e F' w'=>e=.normal/\(∀j,(k<j∨bd ops.toArray j k=false)->C j w')/\Wu P n ds C Q ops (k+1) l F' w') ops [o] F w
theorem aY {k:Nat} {o:Oper} {l:List Oper} (hr:readB o.op=true) (h:Wq P n ds (C k) (fun F'=>Wu P n ds C Q ops (k+1) l F' w) ops [o] F):Wu P n ds C Q ops k (o::l) F w:=by
 unfold Wu;rw [if_pos hr];exact h
theorem iV {k:Nat} {o o2:Oper} {l:List Oper} (hr:readB o.op=false) (h:Wl P n ds (fun e F' w'=>e=.normal/\(∀j,(k<j∨bd ops.toArray j k=false)->C j w')/\Wu P n ds C Q ops (k+1) (o2::l) F' w') ops [o] F w):Wu P n ds C Q ops k (o::o2::l) F w:=by
 unfold Wu;rw [if_neg (by rw [hr];simp),if_neg (by simp)];exact h
theorem Wu.last {k:Nat} {o:Oper} (hr:readB o.op=false) (h:Wl P n ds Q ops [o] F w):Wu P n ds C Q ops k [o] F w:=by
 unfold Wu;rw [if_neg (by rw [hr];simp),if_pos anG];exact h
theorem EN: ∀(l:List Oper) (k:Nat) (F:Fr) (w:World),(∀j,l[j]? =ops[k+j]?)->Wu P n ds C Q ops k l F w->TSn P ops.toArray C (QA n ds Q) ((ab8 l.length).map (k+ ·)) (act n ds F) w
 | [],k,F,w,_,h=>⟨F,rfl,h⟩
 |o::l,k,F,w,hl,h=>by
  have h0:ops[k]? =some o:=by simpa using (hl 0).symm
  have h0':ops.toArray[k]? =some o:=by simpa using h0
  have hl': ∀j,l[j]? =ops[k+1+j]? :=fun j=>by have:=hl (j+1);simpa [anU,aox 1 j] using this
  have e1:(ab8 (o::l).length).map (k+ ·)=k::(ab8 l.length).map (k+1+ ·):=by rw [anJ,aoy,acd,aoz,anN];congr 1;apply aoA;intro j _;show k+(j+1)=k+1+j;omega
  have hlen:(k+1=ops.toArray.size)↔l=[]:=by
   have h2:=hl' 0;constructor
   ·intro e;have hz:ops.toArray.size=ops.length:=by simp
    have hz2:ops.length<=k+1+0:=by omega
    rw [anl hz2] at h2;cases l with
    |nil=>rfl
    |cons _ _=>simp at h2
   ·intro e;subst e;have hk:=(List.getElem?_eq_some_iff.1 h0).1;have:ops[k+1+0]? =none:=by rw [<-h2];rfl
    have:=List.getElem?_eq_none_iff.1 this;simp;omega
  have hq:isQ ops.toArray k=readB o.op:=by unfold isQ;rw [h0']
  rw [e1,TSn,hq];unfold Wu at h;split
  ·rename_i hr
   rw [if_pos hr] at h;unfold Wq at h;have hst:qOp P ops.toArray (C k) k (fun a=> ∃F',a=act n ds F'/\Wu P n ds C Q ops (k+1) l F' w) (act n ds F):=by unfold qOp;simp only [h0'];exact h
   obtain ⟨v,hy,F',hF,hw⟩:=yieldsIn_of_qOp h0' hst;refine ⟨o,v,h0',hy,?_⟩;rw [hF];exact EN l (k+1) F' w hl' hw
  ·rename_i hr
   rw [if_neg hr] at h;split
   ·rename_i he
    have:=hlen.1 he;subst this;rw [if_pos anG] at h;exact vM h0 h
   ·rename_i he
    rw [if_neg (by simpa using fun e=>he (hlen.2 e))] at h;refine DY ?_ ?_ (vM h0 h)
    ·rintro e a' w' hne ⟨F',_,h',_⟩;exact hne h'
    ·rintro a' w' ⟨F',rfl,_,hC,h'⟩;exact ⟨⟨fun j hj=>hC j (.inl (by obtain ⟨m,_,rfl⟩:=List.mem_map.1 hj;omega)),fun j hj=>hC j (.inr hj)⟩,EN l (k+1) F' w' hl' h'⟩
theorem iW {rid:Nat} (hm:P.follows .mixedOrders=true) (hB:okT ops.toArray=true) (C:Nat->World->Prop) (hC: ∀k,C k w.drew) (h: ∀w',New w w'->Wu P n ds C Q ops 0 ops F w'):Wc P n ds Q (.region rid ops.toArray true) F w:=by
 unfold Wc;refine wp_region_any hm ?_;have hleft:left ops.toArray (anp ops.toArray.size false)=(ab8 ops.length).map (0+ ·):=by unfold left;rw [show ((fun x=>0+x):Nat->Nat)=id from funext fun x=>ace x,aoB];simp only [anu];refine List.filter_eq_self.2 fun k hk=>?_;have:=List.mem_range.1 hk;simp [ab9,anB,this]
 have h0:Ap ops.toArray (anp ops.toArray.size false):=by intro j o hj;exfalso;simp only [ab9,anB] at hj;split at hj<;>simp at hj
 refine KU (C:=C) hB _ _ _ _ (by simp) (by rw [hleft];simp) h0 (fun k _=>hC k) ?_;rw [hleft];exact EN ops 0 F w.drew (fun j=>by rw [ace]) (h _ (Chg.drew _ _))
end
attribute [irreducible] Wu
end Go.Proofs.YtfbnfhhmiiahnaaGreatDoor.Wk
namespace Go.Proofs.YtfbnfhhmiiahnaaGreatDoor
open Go.Proofs.YtfbnfhhmiiahnaaGreatDoor.Wk
instance alQ:ElT prog 1 1 8 false (.nilFunc):=aG (by kernel_rfl) rfl (by kernel_rfl)
instance alR:Und prog 3 (.int .i64):=⟨underlying3⟩
instance alS:ElT prog 3 1 8 false (.int .i64 0):=aG (by kernel_rfl) rfl (by kernel_rfl)
instance alT:Und prog 4 .bool:=⟨underlying4⟩
instance alU:ElT prog 4 1 1 false (.bool false):=aG (by kernel_rfl) rfl (by kernel_rfl)
instance alV:Und prog 5 (.int .u8):=⟨underlying5⟩
instance alW:ElT prog 5 1 1 false (.int .u8 0):=aG (by kernel_rfl) rfl (by kernel_rfl)
instance alX:Und prog 9 .string:=⟨underlying9⟩
instance alY:ElT prog 9 1 16 false (.string ⟨#[]⟩):=aG (by kernel_rfl) rfl (by kernel_rfl)
instance aju:Und prog 21 (.int .i32):=⟨underlying21⟩
instance ajv:Und prog 22 (.slice 73):=⟨underlying22⟩
instance ajw:ElT prog 22 1 24 false (.slice none 0 0):=aG (by kernel_rfl) rfl (by kernel_rfl)
instance ajx:Und prog 23 (.slice 79):=⟨underlying23⟩
instance ajy:ElT prog 23 1 24 false (.slice none 0 0):=aG (by kernel_rfl) rfl (by kernel_rfl)
instance ajz:Und prog 24 (.slice 9):=⟨underlying24⟩
instance ajA:ElT prog 24 1 24 false (.slice none 0 0):=aG (by kernel_rfl) rfl (by kernel_rfl)
instance aeS:Fld prog 28 0 0 22:=⟨⟨_,_,underlying28,rfl,rfl,rfl⟩⟩
instance aeT:Fld prog 28 1 1 23:=⟨⟨_,_,underlying28,rfl,rfl,rfl⟩⟩
instance aeU:Fld prog 28 2 2 24:=⟨⟨_,_,underlying28,rfl,rfl,rfl⟩⟩
instance aeV:Fld prog 28 3 3 24:=⟨⟨_,_,underlying28,rfl,rfl,rfl⟩⟩
instance ajB:ElT prog 28 4 96 true (.agg #[.slice none 0 0,.slice none 0 0,.slice none 0 0,.slice none 0 0]):=aG (by kernel_rfl) rfl (by kernel_rfl)
instance ajC:Und prog 30 (.slice 92):=⟨underlying30⟩
instance ajD:ElT prog 30 1 24 false (.slice none 0 0):=aG (by kernel_rfl) rfl (by kernel_rfl)
instance ajE:Und prog 31 (.slice 122):=⟨underlying31⟩
instance ajF:ElT prog 31 1 24 false (.slice none 0 0):=aG (by kernel_rfl) rfl (by kernel_rfl)
instance ajG:Und prog 32 (.slice 100):=⟨underlying32⟩
instance ajH:ElT prog 32 1 24 false (.slice none 0 0):=aG (by kernel_rfl) rfl (by kernel_rfl)
instance aeW:Fld prog 34 0 0 30:=⟨⟨_,_,underlying34,rfl,rfl,rfl⟩⟩
instance aeX:Fld prog 34 1 1 31:=⟨⟨_,_,underlying34,rfl,rfl,rfl⟩⟩
instance aeY:Fld prog 34 2 2 32:=⟨⟨_,_,underlying34,rfl,rfl,rfl⟩⟩
instance aeZ:Fld prog 34 3 3 32:=⟨⟨_,_,underlying34,rfl,rfl,rfl⟩⟩
instance ajI:ElT prog 34 4 96 true (.agg #[.slice none 0 0,.slice none 0 0,.slice none 0 0,.slice none 0 0]):=aG (by kernel_rfl) rfl (by kernel_rfl)
instance ajJ:Und prog 38 (.pointer 85):=⟨underlying38⟩
instance ajK:ElT prog 38 1 8 false (.pointer none):=aG (by kernel_rfl) rfl (by kernel_rfl)
instance ajL:Und prog 42 (.slice 65):=⟨underlying42⟩
instance ajM:ElT prog 42 1 24 false (.slice none 0 0):=aG (by kernel_rfl) rfl (by kernel_rfl)
instance ajN:Und prog 44 (.slice 4):=⟨underlying44⟩
instance ajO:ElT prog 44 1 24 false (.slice none 0 0):=aG (by kernel_rfl) rfl (by kernel_rfl)
instance ajP:Und prog 46 (.slice 64):=⟨underlying46⟩
instance ajQ:ElT prog 46 1 24 false (.slice none 0 0):=aG (by kernel_rfl) rfl (by kernel_rfl)
instance ajR:ElT prog 51 1 8 false (.nilFunc):=aG (by kernel_rfl) rfl (by kernel_rfl)
instance ajS:Und prog 55 (.slice 75):=⟨underlying55⟩
instance ajT:ElT prog 55 1 24 false (.slice none 0 0):=aG (by kernel_rfl) rfl (by kernel_rfl)
instance ae0:Fld prog 59 0 0 4:=⟨⟨_,_,underlying59,rfl,rfl,rfl⟩⟩
instance ae1:Fld prog 59 1 1 4:=⟨⟨_,_,underlying59,rfl,rfl,rfl⟩⟩
instance ae2:Fld prog 59 2 2 3:=⟨⟨_,_,underlying59,rfl,rfl,rfl⟩⟩
instance ae3:Fld prog 59 3 3 46:=⟨⟨_,_,underlying59,rfl,rfl,rfl⟩⟩
instance ajU:ElT prog 59 4 40 true (.agg #[.bool false,.bool false,.int .i64 0,.slice none 0 0]):=aG (by kernel_rfl) rfl (by kernel_rfl)
instance ajV:ElT prog 64 2 16 true (.agg #[.int .i64 0,.bool false]):=aG (by kernel_rfl) rfl (by kernel_rfl)
instance ajW:Und prog 65 (.slice 3):=⟨underlying65⟩
instance ajX:ElT prog 65 1 24 false (.slice none 0 0):=aG (by kernel_rfl) rfl (by kernel_rfl)
instance ae4:Fld prog 70 0 0 9:=⟨⟨_,_,underlying70,rfl,rfl,rfl⟩⟩
instance ae5:Fld prog 70 1 1 9:=⟨⟨_,_,underlying70,rfl,rfl,rfl⟩⟩
instance ajY:ElT prog 70 2 32 true (.agg #[.string ⟨#[]⟩,.string ⟨#[]⟩]):=aG (by kernel_rfl) rfl (by kernel_rfl)
instance ajZ:Und prog 71 (.slice 70):=⟨underlying71⟩
instance aj0:ElT prog 71 1 24 false (.slice none 0 0):=aG (by kernel_rfl) rfl (by kernel_rfl)
instance ae6:Fld prog 73 0 0 3:=⟨⟨_,_,underlying73,rfl,rfl,rfl⟩⟩
instance ae7:Fld prog 73 1 1 9:=⟨⟨_,_,underlying73,rfl,rfl,rfl⟩⟩
instance ae8:Fld prog 73 2 2 71:=⟨⟨_,_,underlying73,rfl,rfl,rfl⟩⟩
instance aj1:ElT prog 73 3 48 true (.agg #[.int .i64 0,.string ⟨#[]⟩,.slice none 0 0]):=aG (by kernel_rfl) rfl (by kernel_rfl)
instance ae9:Fld prog 75 0 0 3:=⟨⟨_,_,underlying75,rfl,rfl,rfl⟩⟩
instance afa:Fld prog 75 1 1 9:=⟨⟨_,_,underlying75,rfl,rfl,rfl⟩⟩
instance aj2:ElT prog 75 2 24 true (.agg #[.int .i64 0,.string ⟨#[]⟩]):=aG (by kernel_rfl) rfl (by kernel_rfl)
instance aj3:ElT prog 76 1 1 false (.int .i8 0):=aG (by kernel_rfl) rfl (by kernel_rfl)
instance aj6:ElT prog 77 1 2 false (.int .i16 0):=aG (by kernel_rfl) rfl (by kernel_rfl)
instance afb:Fld prog 79 0 0 9:=⟨⟨_,_,underlying79,rfl,rfl,rfl⟩⟩
instance afc:Fld prog 79 1 1 9:=⟨⟨_,_,underlying79,rfl,rfl,rfl⟩⟩
instance afd:Fld prog 79 2 2 5:=⟨⟨_,_,underlying79,rfl,rfl,rfl⟩⟩
instance afe:Fld prog 79 3 3 24:=⟨⟨_,_,underlying79,rfl,rfl,rfl⟩⟩
instance aff:Fld prog 79 4 4 76:=⟨⟨_,_,underlying79,rfl,rfl,rfl⟩⟩
instance afg:Fld prog 79 5 5 9:=⟨⟨_,_,underlying79,rfl,rfl,rfl⟩⟩
instance afh:Fld prog 79 6 6 77:=⟨⟨_,_,underlying79,rfl,rfl,rfl⟩⟩
instance aj7:ElT prog 79 7 96 true (.agg #[.string ⟨#[]⟩,.string ⟨#[]⟩,.int .u8 0,.slice none 0 0,.int .i8 0,.string ⟨#[]⟩,.int .i16 0]):=aG (by kernel_rfl) rfl (by kernel_rfl)
instance aj8:Und prog 80 (.pointer 128):=⟨underlying80⟩
instance aj9:ElT prog 80 1 8 false (.pointer none):=aG (by kernel_rfl) rfl (by kernel_rfl)
instance akb:Und prog 83 (.slice 94):=⟨underlying83⟩
instance akc:ElT prog 83 1 24 false (.slice none 0 0):=aG (by kernel_rfl) rfl (by kernel_rfl)
instance afi:Fld prog 85 0 0 83:=⟨⟨_,_,underlying85,rfl,rfl,rfl⟩⟩
instance afj:Fld prog 85 1 1 65:=⟨⟨_,_,underlying85,rfl,rfl,rfl⟩⟩
instance afk:Fld prog 85 2 2 65:=⟨⟨_,_,underlying85,rfl,rfl,rfl⟩⟩
instance afl:Fld prog 85 3 3 4:=⟨⟨_,_,underlying85,rfl,rfl,rfl⟩⟩
instance akd:ElT prog 85 4 80 true (.agg #[.slice none 0 0,.slice none 0 0,.slice none 0 0,.bool false]):=aG (by kernel_rfl) rfl (by kernel_rfl)
instance afm:Fld prog 92 0 0 5:=⟨⟨_,_,underlying92,rfl,rfl,rfl⟩⟩
instance afn:Fld prog 92 1 1 3:=⟨⟨_,_,underlying92,rfl,rfl,rfl⟩⟩
instance afo:Fld prog 92 2 2 3:=⟨⟨_,_,underlying92,rfl,rfl,rfl⟩⟩
instance ake:ElT prog 92 3 24 true (.agg #[.int .u8 0,.int .i64 0,.int .i64 0]):=aG (by kernel_rfl) rfl (by kernel_rfl)
instance afp:Fld prog 94 0 0 9:=⟨⟨_,_,underlying94,rfl,rfl,rfl⟩⟩
instance afq:Fld prog 94 1 1 4:=⟨⟨_,_,underlying94,rfl,rfl,rfl⟩⟩
instance afr:Fld prog 94 2 2 4:=⟨⟨_,_,underlying94,rfl,rfl,rfl⟩⟩
instance afs:Fld prog 94 3 3 65:=⟨⟨_,_,underlying94,rfl,rfl,rfl⟩⟩
instance afu:Fld prog 94 4 4 65:=⟨⟨_,_,underlying94,rfl,rfl,rfl⟩⟩
instance afv:Fld prog 94 5 5 4:=⟨⟨_,_,underlying94,rfl,rfl,rfl⟩⟩
instance akf:ElT prog 94 6 80 true (.agg #[.string ⟨#[]⟩,.bool false,.bool false,.slice none 0 0,.slice none 0 0,.bool false]):=aG (by kernel_rfl) rfl (by kernel_rfl)
instance akg:Und prog 98 (.slice 181):=⟨underlying98⟩
instance akh:ElT prog 98 1 24 false (.slice none 0 0):=aG (by kernel_rfl) rfl (by kernel_rfl)
instance acf:Fld prog 100 0 0 3:=⟨⟨_,_,underlying100,rfl,rfl,rfl⟩⟩
instance acg:Fld prog 100 1 1 3:=⟨⟨_,_,underlying100,rfl,rfl,rfl⟩⟩
instance ach:Fld prog 100 3 3 4:=⟨⟨_,_,underlying100,rfl,rfl,rfl⟩⟩
instance aci:Fld prog 100 4 4 3:=⟨⟨_,_,underlying100,rfl,rfl,rfl⟩⟩
instance acj:Fld prog 100 5 5 98:=⟨⟨_,_,underlying100,rfl,rfl,rfl⟩⟩
instance afK:ElT prog 100 6 56 true (.agg #[.int .i64 0,.int .i64 0,.int .u8 0,.bool false,.int .i64 0,.slice none 0 0]):=aG (by kernel_rfl) rfl (by kernel_rfl)
instance afL:Und prog 108 (.slice 1):=⟨underlying108⟩
instance afM:ElT prog 108 1 24 false (.slice none 0 0):=aG (by kernel_rfl) rfl (by kernel_rfl)
instance afN:Und prog 116 (.map 3 3):=⟨underlying116⟩
instance afO:ElT prog 116 1 8 false (.map none):=aG (by kernel_rfl) rfl (by kernel_rfl)
instance afP:ElT prog 117 1 8 false (.nilFunc):=aG (by kernel_rfl) rfl (by kernel_rfl)
instance afQ:Und prog 120 (.slice 169):=⟨underlying120⟩
instance afR:ElT prog 120 1 24 false (.slice none 0 0):=aG (by kernel_rfl) rfl (by kernel_rfl)
instance ack:Fld prog 122 0 0 65:=⟨⟨_,_,underlying122,rfl,rfl,rfl⟩⟩
instance acn:Fld prog 122 1 1 120:=⟨⟨_,_,underlying122,rfl,rfl,rfl⟩⟩
instance afS:ElT prog 122 2 48 true (.agg #[.slice none 0 0,.slice none 0 0]):=aG (by kernel_rfl) rfl (by kernel_rfl)
instance afT:Und prog 125 (.slice 130):=⟨underlying125⟩
instance afU:ElT prog 125 1 24 false (.slice none 0 0):=aG (by kernel_rfl) rfl (by kernel_rfl)
instance afV:Und prog 126 (.map 9 3):=⟨underlying126⟩
instance afW:ElT prog 126 1 8 false (.map none):=aG (by kernel_rfl) rfl (by kernel_rfl)
instance aco:Fld prog 128 0 0 125:=⟨⟨_,_,underlying128,rfl,rfl,rfl⟩⟩
instance acr:Fld prog 128 1 1 65:=⟨⟨_,_,underlying128,rfl,rfl,rfl⟩⟩
instance acs:Fld prog 128 2 2 126:=⟨⟨_,_,underlying128,rfl,rfl,rfl⟩⟩
instance afX:ElT prog 128 3 56 true (.agg #[.slice none 0 0,.slice none 0 0,.map none]):=aG (by kernel_rfl) rfl (by kernel_rfl)
instance acu:Fld prog 130 0 0 9:=⟨⟨_,_,underlying130,rfl,rfl,rfl⟩⟩
instance acv:Fld prog 130 1 1 4:=⟨⟨_,_,underlying130,rfl,rfl,rfl⟩⟩
instance acw:Fld prog 130 2 2 5:=⟨⟨_,_,underlying130,rfl,rfl,rfl⟩⟩
instance acy:Fld prog 130 3 3 92:=⟨⟨_,_,underlying130,rfl,rfl,rfl⟩⟩
instance acz:Fld prog 130 4 6 65:=⟨⟨_,_,underlying130,rfl,rfl,rfl⟩⟩
instance acA:Fld prog 130 5 7 4:=⟨⟨_,_,underlying130,rfl,rfl,rfl⟩⟩
instance acB:Fld prog 130 6 8 4:=⟨⟨_,_,underlying130,rfl,rfl,rfl⟩⟩
instance afY:ElT prog 130 9 80 true (.agg #[.string ⟨#[]⟩,.bool false,.int .u8 0,.int .u8 0,.int .i64 0,.int .i64 0,.slice none 0 0,.bool false,.bool false]):=aG (by kernel_rfl) rfl (by kernel_rfl)
instance afZ:ElT prog 140 1 8 false (.pointer none):=aG (by kernel_rfl) rfl (by kernel_rfl)
instance af0:Und prog 143 (.map 181 3):=⟨underlying143⟩
instance af2:ElT prog 143 1 8 false (.map none):=aG (by kernel_rfl) rfl (by kernel_rfl)
instance acC:Fld prog 145 0 0 22:=⟨⟨_,_,underlying145,rfl,rfl,rfl⟩⟩
instance acD:Fld prog 145 1 1 143:=⟨⟨_,_,underlying145,rfl,rfl,rfl⟩⟩
instance acE:Fld prog 145 2 2 32:=⟨⟨_,_,underlying145,rfl,rfl,rfl⟩⟩
instance acF:Fld prog 145 3 3 42:=⟨⟨_,_,underlying145,rfl,rfl,rfl⟩⟩
instance acG:Fld prog 145 4 4 44:=⟨⟨_,_,underlying145,rfl,rfl,rfl⟩⟩
instance acH:Fld prog 145 5 5 24:=⟨⟨_,_,underlying145,rfl,rfl,rfl⟩⟩
instance af4:ElT prog 145 6 128 true (.agg #[.slice none 0 0,.map none,.slice none 0 0,.slice none 0 0,.slice none 0 0,.slice none 0 0]):=aG (by kernel_rfl) rfl (by kernel_rfl)
instance af5:Und prog 154 (.slice 160):=⟨underlying154⟩
instance af6:ElT prog 154 1 24 false (.slice none 0 0):=aG (by kernel_rfl) rfl (by kernel_rfl)
instance acI:Fld prog 160 0 0 3:=⟨⟨_,_,underlying160,rfl,rfl,rfl⟩⟩
instance af7:ElT prog 160 2 16 true (.agg #[.int .i64 0,.int .i64 0]):=aG (by kernel_rfl) rfl (by kernel_rfl)
instance af8:ElT prog 169 2 16 true (.agg #[.int .i64 0,.int .i64 0]):=aG (by kernel_rfl) rfl (by kernel_rfl)
instance af9:Und prog 181 (.int .u32):=⟨underlying181⟩
instance aga:ElT prog 181 1 4 false (.int .u32 0):=aG (by kernel_rfl) rfl (by kernel_rfl)
instance agb:Und prog 186 (.map 9 4):=⟨underlying186⟩
instance agc:Und prog 193 (.array 7 116):=⟨underlying193⟩
instance agd:ElT prog 193 7 56 true (.agg #[.map none,.map none,.map none,.map none,.map none,.map none,.map none]):=aG (by kernel_rfl) rfl (by kernel_rfl)
instance agf:Und prog 197 (.slice 275):=⟨underlying197⟩
instance agh:Und prog 198 (.slice 205):=⟨underlying198⟩
instance agi:Und prog 201 (.int .u64):=⟨underlying201⟩
instance agj:ElT prog 201 1 8 false (.int .u64 0):=aG (by kernel_rfl) rfl (by kernel_rfl)
instance acJ:Fld prog 203 0 0 5:=⟨⟨_,_,underlying203,rfl,rfl,rfl⟩⟩
instance acK:Fld prog 203 1 1 201:=⟨⟨_,_,underlying203,rfl,rfl,rfl⟩⟩
instance acL:Fld prog 203 2 2 201:=⟨⟨_,_,underlying203,rfl,rfl,rfl⟩⟩
instance agk:ElT prog 203 3 24 true (.agg #[.int .u8 0,.int .u64 0,.int .u64 0]):=aG (by kernel_rfl) rfl (by kernel_rfl)
instance acM:Fld prog 205 0 0 3:=⟨⟨_,_,underlying205,rfl,rfl,rfl⟩⟩
instance acN:Fld prog 205 2 4 3:=⟨⟨_,_,underlying205,rfl,rfl,rfl⟩⟩
instance agl:ElT prog 205 5 40 true (.agg #[.int .i64 0,.int .u8 0,.int .u64 0,.int .u64 0,.int .i64 0]):=aG (by kernel_rfl) rfl (by kernel_rfl)
instance agm:ElT prog 206 1 8 false (.nilFunc):=aG (by kernel_rfl) rfl (by kernel_rfl)
instance acO:Fld prog 208 0 0 5:=⟨⟨_,_,underlying208,rfl,rfl,rfl⟩⟩
instance acP:Fld prog 208 1 1 206:=⟨⟨_,_,underlying208,rfl,rfl,rfl⟩⟩
instance agn:ElT prog 208 2 16 true (.agg #[.int .u8 0,.nilFunc]):=aG (by kernel_rfl) rfl (by kernel_rfl)
instance agp:Und prog 210 (.slice 208):=⟨underlying210⟩
instance agq:Und prog 214 (.int .u64):=⟨underlying214⟩
instance agr:Und prog 219 (.map 223 4):=⟨underlying219⟩
instance ags:ElT prog 223 2 24 true (.agg #[.int .i64 0,.string ⟨#[]⟩]):=aG (by kernel_rfl) rfl (by kernel_rfl)
instance agt:Und prog 225 (.slice 5):=⟨underlying225⟩
instance agu:Und prog 237 (.array 2 9):=⟨underlying237⟩
instance agv:ElT prog 237 2 32 true (.agg #[.string ⟨#[]⟩,.string ⟨#[]⟩]):=aG (by kernel_rfl) rfl (by kernel_rfl)
instance agw:Und prog 238 (.array 6 237):=⟨underlying238⟩
instance agx:ElT prog 238 12 192 true (.agg #[.string ⟨#[]⟩,.string ⟨#[]⟩,.string ⟨#[]⟩,.string ⟨#[]⟩,.string ⟨#[]⟩,.string ⟨#[]⟩,.string ⟨#[]⟩,.string ⟨#[]⟩,.string ⟨#[]⟩,.string ⟨#[]⟩,.string ⟨#[]⟩,.string ⟨#[]⟩]):=aG (by kernel_rfl) rfl (by kernel_rfl)
instance agy:Und prog 247 (.slice 44):=⟨underlying247⟩
instance agz:Und prog 266 (.array 4 5):=⟨underlying266⟩
instance agA:ElT prog 266 4 4 true (.agg #[.int .u8 0,.int .u8 0,.int .u8 0,.int .u8 0]):=aG (by kernel_rfl) rfl (by kernel_rfl)
instance acQ:Fld prog 275 0 0 3:=⟨⟨_,_,underlying275,rfl,rfl,rfl⟩⟩
instance acR:Fld prog 275 1 1 203:=⟨⟨_,_,underlying275,rfl,rfl,rfl⟩⟩
instance agB:ElT prog 275 4 32 true (.agg #[.int .i64 0,.int .u8 0,.int .u64 0,.int .u64 0]):=aG (by kernel_rfl) rfl (by kernel_rfl)
instance agC:Und prog 276 (.slice 203):=⟨underlying276⟩
instance agD:ElT prog 276 1 24 false (.slice none 0 0):=aG (by kernel_rfl) rfl (by kernel_rfl)
instance agE:Und prog 295 (.array 3 9):=⟨underlying295⟩
instance agF:ElT prog 295 3 48 true (.agg #[.string ⟨#[]⟩,.string ⟨#[]⟩,.string ⟨#[]⟩]):=aG (by kernel_rfl) rfl (by kernel_rfl)
instance agG:Und prog 296 (.slice 300):=⟨underlying296⟩
instance acS:Fld prog 300 0 0 201:=⟨⟨_,_,underlying300,rfl,rfl,rfl⟩⟩
instance acT:Fld prog 300 1 1 201:=⟨⟨_,_,underlying300,rfl,rfl,rfl⟩⟩
instance agH:ElT prog 300 2 16 true (.agg #[.int .u64 0,.int .u64 0]):=aG (by kernel_rfl) rfl (by kernel_rfl)
instance agI:Und prog 326 (.slice 329):=⟨underlying326⟩
instance agJ:Und prog 329 (.slice 201):=⟨underlying329⟩
instance agK:ElT prog 329 1 24 false (.slice none 0 0):=aG (by kernel_rfl) rfl (by kernel_rfl)
instance agL:Und prog 341 (.slice 345):=⟨underlying341⟩
instance acU:Fld prog 345 0 0 201:=⟨⟨_,_,underlying345,rfl,rfl,rfl⟩⟩
instance acV:Fld prog 345 1 1 201:=⟨⟨_,_,underlying345,rfl,rfl,rfl⟩⟩
instance acW:Fld prog 345 2 2 201:=⟨⟨_,_,underlying345,rfl,rfl,rfl⟩⟩
instance agM:ElT prog 345 3 24 true (.agg #[.int .u64 0,.int .u64 0,.int .u64 0]):=aG (by kernel_rfl) rfl (by kernel_rfl)
instance alZ:nN prog 7:=⟨⟨_,func7,by kernel_rfl,rfl⟩⟩
instance al0:nN prog 8:=⟨⟨_,func8,by kernel_rfl,rfl⟩⟩
instance al1:nN prog 9:=⟨⟨_,func9,by kernel_rfl,rfl⟩⟩
instance aki:nN prog 13:=⟨⟨_,func13,by kernel_rfl,rfl⟩⟩
instance akj:nN prog 14:=⟨⟨_,func14,by kernel_rfl,rfl⟩⟩
instance akk:nN prog 16:=⟨⟨_,func16,by kernel_rfl,rfl⟩⟩
instance akl:nN prog 18:=⟨⟨_,func18,by kernel_rfl,rfl⟩⟩
instance akm:nN prog 19:=⟨⟨_,func19,by kernel_rfl,rfl⟩⟩
instance akn:nN prog 20:=⟨⟨_,func20,by kernel_rfl,rfl⟩⟩
instance ako:nN prog 21:=⟨⟨_,func21,by kernel_rfl,rfl⟩⟩
instance akp:nN prog 22:=⟨⟨_,func22,by kernel_rfl,rfl⟩⟩
instance akq:nN prog 23:=⟨⟨_,func23,by kernel_rfl,rfl⟩⟩
instance akr:nN prog 24:=⟨⟨_,func24,by kernel_rfl,rfl⟩⟩
instance aks:nN prog 25:=⟨⟨_,func25,by kernel_rfl,rfl⟩⟩
instance akt:nN prog 26:=⟨⟨_,func26,by kernel_rfl,rfl⟩⟩
instance aku:nN prog 27:=⟨⟨_,func27,by kernel_rfl,rfl⟩⟩
instance akv:nN prog 28:=⟨⟨_,func28,by kernel_rfl,rfl⟩⟩
instance akw:nN prog 29:=⟨⟨_,func29,by kernel_rfl,rfl⟩⟩
instance akx:nN prog 30:=⟨⟨_,func30,by kernel_rfl,rfl⟩⟩
instance aky:nN prog 31:=⟨⟨_,func31,by kernel_rfl,rfl⟩⟩
instance akz:nN prog 32:=⟨⟨_,func32,by kernel_rfl,rfl⟩⟩
instance akA:nN prog 33:=⟨⟨_,func33,by kernel_rfl,rfl⟩⟩
instance akB:nN prog 34:=⟨⟨_,func34,by kernel_rfl,rfl⟩⟩
instance akC:nN prog 35:=⟨⟨_,func35,by kernel_rfl,rfl⟩⟩
instance akD:nN prog 36:=⟨⟨_,func36,by kernel_rfl,rfl⟩⟩
instance akE:nN prog 37:=⟨⟨_,func37,by kernel_rfl,rfl⟩⟩
instance akF:nN prog 38:=⟨⟨_,func38,by kernel_rfl,rfl⟩⟩
instance akG:nN prog 39:=⟨⟨_,func39,by kernel_rfl,rfl⟩⟩
instance akH:nN prog 40:=⟨⟨_,func40,by kernel_rfl,rfl⟩⟩
instance akI:nN prog 41:=⟨⟨_,func41,by kernel_rfl,rfl⟩⟩
instance akJ:nN prog 42:=⟨⟨_,func42,by kernel_rfl,rfl⟩⟩
instance akK:nN prog 43:=⟨⟨_,func43,by kernel_rfl,rfl⟩⟩
instance akL:nN prog 44:=⟨⟨_,func44,by kernel_rfl,rfl⟩⟩
instance akM:nN prog 45:=⟨⟨_,func45,by kernel_rfl,rfl⟩⟩
instance akN:nN prog 46:=⟨⟨_,func46,by kernel_rfl,rfl⟩⟩
instance akO:nN prog 47:=⟨⟨_,func47,by kernel_rfl,rfl⟩⟩
instance akP:nN prog 48:=⟨⟨_,func48,by kernel_rfl,rfl⟩⟩
instance akQ:nN prog 49:=⟨⟨_,func49,by kernel_rfl,rfl⟩⟩
instance akR:nN prog 50:=⟨⟨_,func50,by kernel_rfl,rfl⟩⟩
instance akS:nN prog 51:=⟨⟨_,func51,by kernel_rfl,rfl⟩⟩
instance akT:nN prog 52:=⟨⟨_,func52,by kernel_rfl,rfl⟩⟩
instance akU:nN prog 53:=⟨⟨_,func53,by kernel_rfl,rfl⟩⟩
instance akV:nN prog 54:=⟨⟨_,func54,by kernel_rfl,rfl⟩⟩
instance akW:nN prog 55:=⟨⟨_,func55,by kernel_rfl,rfl⟩⟩
instance akX:nN prog 56:=⟨⟨_,func56,by kernel_rfl,rfl⟩⟩
instance akY:nN prog 57:=⟨⟨_,func57,by kernel_rfl,rfl⟩⟩
instance akZ:nN prog 58:=⟨⟨_,func58,by kernel_rfl,rfl⟩⟩
instance ak0:nN prog 59:=⟨⟨_,func59,by kernel_rfl,rfl⟩⟩
instance ak1:nN prog 60:=⟨⟨_,func60,by kernel_rfl,rfl⟩⟩
instance ak2:nN prog 61:=⟨⟨_,func61,by kernel_rfl,rfl⟩⟩
instance ak3:nN prog 62:=⟨⟨_,func62,by kernel_rfl,rfl⟩⟩
instance ak4:nN prog 63:=⟨⟨_,func63,by kernel_rfl,rfl⟩⟩
instance ak5:nN prog 64:=⟨⟨_,func64,by kernel_rfl,rfl⟩⟩
instance ak6:nN prog 65:=⟨⟨_,func65,by kernel_rfl,rfl⟩⟩
instance ak7:nN prog 66:=⟨⟨_,func66,by kernel_rfl,rfl⟩⟩
instance ak8:nN prog 67:=⟨⟨_,func67,by kernel_rfl,rfl⟩⟩
instance ak9:nN prog 68:=⟨⟨_,func68,by kernel_rfl,rfl⟩⟩
instance ala:nN prog 69:=⟨⟨_,func69,by kernel_rfl,rfl⟩⟩
instance alb:nN prog 70:=⟨⟨_,func70,by kernel_rfl,rfl⟩⟩
instance alc:nN prog 71:=⟨⟨_,func71,by kernel_rfl,rfl⟩⟩
instance ald:nN prog 72:=⟨⟨_,func72,by kernel_rfl,rfl⟩⟩
instance ale:nN prog 73:=⟨⟨_,func73,by kernel_rfl,rfl⟩⟩
instance alf:nN prog 74:=⟨⟨_,func74,by kernel_rfl,rfl⟩⟩
instance alg:nN prog 75:=⟨⟨_,func75,by kernel_rfl,rfl⟩⟩
instance alh:nN prog 76:=⟨⟨_,func76,by kernel_rfl,rfl⟩⟩
instance ali:nN prog 77:=⟨⟨_,func77,by kernel_rfl,rfl⟩⟩
instance alj:nN prog 78:=⟨⟨_,func78,by kernel_rfl,rfl⟩⟩
instance alk:nN prog 79:=⟨⟨_,func79,by kernel_rfl,rfl⟩⟩
instance alm:nN prog 80:=⟨⟨_,func80,by kernel_rfl,rfl⟩⟩
instance aln:nN prog 81:=⟨⟨_,func81,by kernel_rfl,rfl⟩⟩
instance alo:nN prog 82:=⟨⟨_,func82,by kernel_rfl,rfl⟩⟩
instance alp:nN prog 83:=⟨⟨_,func83,by kernel_rfl,rfl⟩⟩
instance alq:nN prog 84:=⟨⟨_,func84,by kernel_rfl,rfl⟩⟩
instance alr:nN prog 85:=⟨⟨_,func85,by kernel_rfl,rfl⟩⟩
instance als:nN prog 86:=⟨⟨_,func86,by kernel_rfl,rfl⟩⟩
instance alu:nN prog 87:=⟨⟨_,func87,by kernel_rfl,rfl⟩⟩
instance alv:nN prog 88:=⟨⟨_,func88,by kernel_rfl,rfl⟩⟩
instance alx:nN prog 89:=⟨⟨_,func89,by kernel_rfl,rfl⟩⟩
instance aly:nN prog 90:=⟨⟨_,func90,by kernel_rfl,rfl⟩⟩
instance alz:nN prog 91:=⟨⟨_,func91,by kernel_rfl,rfl⟩⟩
instance alA:nN prog 92:=⟨⟨_,func92,by kernel_rfl,rfl⟩⟩
instance alB:nN prog 95:=⟨⟨_,func95,by kernel_rfl,rfl⟩⟩
instance alC:nN prog 96:=⟨⟨_,func96,by kernel_rfl,rfl⟩⟩
instance alD:nN prog 97:=⟨⟨_,func97,by kernel_rfl,rfl⟩⟩
instance alE:nN prog 98:=⟨⟨_,func98,by kernel_rfl,rfl⟩⟩
instance alF:nN prog 99:=⟨⟨_,func99,by kernel_rfl,rfl⟩⟩
instance agN:nN prog 100:=⟨⟨_,func100,by kernel_rfl,rfl⟩⟩
instance agO:nN prog 101:=⟨⟨_,func101,by kernel_rfl,rfl⟩⟩
instance agP:nN prog 105:=⟨⟨_,func105,by kernel_rfl,rfl⟩⟩
instance agQ:nN prog 106:=⟨⟨_,func106,by kernel_rfl,rfl⟩⟩
instance agR:nN prog 107:=⟨⟨_,func107,by kernel_rfl,rfl⟩⟩
instance agS:nN prog 108:=⟨⟨_,func108,by kernel_rfl,rfl⟩⟩
instance agT:nN prog 109:=⟨⟨_,func109,by kernel_rfl,rfl⟩⟩
instance agU:nN prog 110:=⟨⟨_,func110,by kernel_rfl,rfl⟩⟩
instance agV:nN prog 111:=⟨⟨_,func111,by kernel_rfl,rfl⟩⟩
instance agW:nN prog 112:=⟨⟨_,func112,by kernel_rfl,rfl⟩⟩
instance agX:nN prog 113:=⟨⟨_,func113,by kernel_rfl,rfl⟩⟩
instance agY:nN prog 114:=⟨⟨_,func114,by kernel_rfl,rfl⟩⟩
instance agZ:nN prog 115:=⟨⟨_,func115,by kernel_rfl,rfl⟩⟩
instance ag0:nN prog 116:=⟨⟨_,func116,by kernel_rfl,rfl⟩⟩
instance ag1:nN prog 117:=⟨⟨_,func117,by kernel_rfl,rfl⟩⟩
instance ag2:nN prog 118:=⟨⟨_,func118,by kernel_rfl,rfl⟩⟩
instance ag3:nN prog 119:=⟨⟨_,func119,by kernel_rfl,rfl⟩⟩
instance ag4:nN prog 120:=⟨⟨_,func120,by kernel_rfl,rfl⟩⟩
instance ag5:nN prog 131:=⟨⟨_,func131,by kernel_rfl,rfl⟩⟩
instance ag6:nN prog 132:=⟨⟨_,func132,by kernel_rfl,rfl⟩⟩
instance ag7:nN prog 135:=⟨⟨_,func135,by kernel_rfl,rfl⟩⟩
instance ag8:nN prog 136:=⟨⟨_,func136,by kernel_rfl,rfl⟩⟩
instance ag9:nN prog 137:=⟨⟨_,func137,by kernel_rfl,rfl⟩⟩
instance aha:nN prog 138:=⟨⟨_,func138,by kernel_rfl,rfl⟩⟩
instance ahb:nN prog 140:=⟨⟨_,func140,by kernel_rfl,rfl⟩⟩
instance ahc:nN prog 141:=⟨⟨_,func141,by kernel_rfl,rfl⟩⟩
instance ahd:nN prog 142:=⟨⟨_,func142,by kernel_rfl,rfl⟩⟩
instance ahe:nN prog 143:=⟨⟨_,func143,by kernel_rfl,rfl⟩⟩
instance ahf:nN prog 144:=⟨⟨_,func144,by kernel_rfl,rfl⟩⟩
instance ahg:nN prog 145:=⟨⟨_,func145,by kernel_rfl,rfl⟩⟩
instance ahh:nN prog 146:=⟨⟨_,func146,by kernel_rfl,rfl⟩⟩
instance ahi:nN prog 147:=⟨⟨_,func147,by kernel_rfl,rfl⟩⟩
instance ahj:nN prog 148:=⟨⟨_,func148,by kernel_rfl,rfl⟩⟩
instance ahk:nN prog 149:=⟨⟨_,func149,by kernel_rfl,rfl⟩⟩
instance ahl:nN prog 155:=⟨⟨_,func155,by kernel_rfl,rfl⟩⟩
instance ahm:nN prog 159:=⟨⟨_,func159,by kernel_rfl,rfl⟩⟩
instance ahn:nN prog 161:=⟨⟨_,func161,by kernel_rfl,rfl⟩⟩
instance aho:nN prog 162:=⟨⟨_,func162,by kernel_rfl,rfl⟩⟩
instance ahp:nN prog 163:=⟨⟨_,func163,by kernel_rfl,rfl⟩⟩
instance ahq:nN prog 164:=⟨⟨_,func164,by kernel_rfl,rfl⟩⟩
instance ahr:nN prog 165:=⟨⟨_,func165,by kernel_rfl,rfl⟩⟩
instance ahs:nN prog 166:=⟨⟨_,func166,by kernel_rfl,rfl⟩⟩
instance aht:nN prog 167:=⟨⟨_,func167,by kernel_rfl,rfl⟩⟩
instance ahu:nN prog 168:=⟨⟨_,func168,by kernel_rfl,rfl⟩⟩
instance ahv:nN prog 170:=⟨⟨_,func170,by kernel_rfl,rfl⟩⟩
instance ahw:nN prog 171:=⟨⟨_,func171,by kernel_rfl,rfl⟩⟩
instance ahx:nN prog 174:=⟨⟨_,func174,by kernel_rfl,rfl⟩⟩
instance ahy:nN prog 178:=⟨⟨_,func178,by kernel_rfl,rfl⟩⟩
instance ahz:nN prog 179:=⟨⟨_,func179,by kernel_rfl,rfl⟩⟩
instance ahA:nN prog 181:=⟨⟨_,func181,by kernel_rfl,rfl⟩⟩
instance ahB:nN prog 186:=⟨⟨_,func186,by kernel_rfl,rfl⟩⟩
instance ahC:nN prog 187:=⟨⟨_,func187,by kernel_rfl,rfl⟩⟩
instance ahD:nN prog 188:=⟨⟨_,func188,by kernel_rfl,rfl⟩⟩
instance ahE:nN prog 197:=⟨⟨_,func197,by kernel_rfl,rfl⟩⟩
instance ahF:nN prog 200:=⟨⟨_,func200,by kernel_rfl,rfl⟩⟩
instance ahG:nN prog 201:=⟨⟨_,func201,by kernel_rfl,rfl⟩⟩
instance ahH:nN prog 202:=⟨⟨_,func202,by kernel_rfl,rfl⟩⟩
instance ahI:nN prog 203:=⟨⟨_,func203,by kernel_rfl,rfl⟩⟩
instance ahJ:nN prog 204:=⟨⟨_,func204,by kernel_rfl,rfl⟩⟩
instance ahK:nN prog 209:=⟨⟨_,func209,by kernel_rfl,rfl⟩⟩
instance ahL:nN prog 210:=⟨⟨_,func210,by kernel_rfl,rfl⟩⟩
instance ahM:nN prog 211:=⟨⟨_,func211,by kernel_rfl,rfl⟩⟩
instance ahN:nN prog 212:=⟨⟨_,func212,by kernel_rfl,rfl⟩⟩
instance ahO:Flat prog 28 4:=⟨⟨_,underlying28,rfl,by kernel_rfl⟩⟩
instance ahP:Flat prog 64 2:=⟨⟨_,underlying64,rfl,by kernel_rfl⟩⟩
instance ahQ:Flat prog 70 2:=⟨⟨_,underlying70,rfl,by kernel_rfl⟩⟩
instance ahR:Flat prog 73 3:=⟨⟨_,underlying73,rfl,by kernel_rfl⟩⟩
instance ahS:Flat prog 75 2:=⟨⟨_,underlying75,rfl,by kernel_rfl⟩⟩
instance ahT:Flat prog 79 7:=⟨⟨_,underlying79,rfl,by kernel_rfl⟩⟩
instance ahU:Flat prog 85 4:=⟨⟨_,underlying85,rfl,by kernel_rfl⟩⟩
instance ahV:Flat prog 94 6:=⟨⟨_,underlying94,rfl,by kernel_rfl⟩⟩
instance afw:Flat prog 100 6:=⟨⟨_,underlying100,rfl,by kernel_rfl⟩⟩
instance afx:Flat prog 128 3:=⟨⟨_,underlying128,rfl,by kernel_rfl⟩⟩
instance afy:Flat prog 145 6:=⟨⟨_,underlying145,rfl,by kernel_rfl⟩⟩
instance afz:Flat prog 160 2:=⟨⟨_,underlying160,rfl,by kernel_rfl⟩⟩
instance afA:Flat prog 169 2:=⟨⟨_,underlying169,rfl,by kernel_rfl⟩⟩
instance afB:Flat prog 203 3:=⟨⟨_,underlying203,rfl,by kernel_rfl⟩⟩
instance afC:Flat prog 208 2:=⟨⟨_,underlying208,rfl,by kernel_rfl⟩⟩
instance afD:Flat prog 223 2:=⟨⟨_,underlying223,rfl,by kernel_rfl⟩⟩
instance afE:Flat prog 300 2:=⟨⟨_,underlying300,rfl,by kernel_rfl⟩⟩
instance afF:Flat prog 345 3:=⟨⟨_,underlying345,rfl,by kernel_rfl⟩⟩
end Go.Proofs.YtfbnfhhmiiahnaaGreatDoor
