/- For every input that the row takes, SegmentsJoin answers true and leaves its arguments as they were. No condition but the row's own. -/
import Derived.Test.YtoklpgfaedjjpaaGreatDoorLQ
import Derived.Test.YtoklpgfaedjjpaaGreatDoorRows
import Derived.Test.YtoklpgfaedjjpaaGreatDoorCards
import Derived.Test.YtoklpgfaedjjpaaGreatDoorTie
import Derived.SevenTiedAt
import Derived.LaidLaws
import Derived.Stop.LaidErr
set_option linter.all false
namespace Go.Proofs.YtoklpgfaedjjpaaGreatDoor
open Go.Eng Go.RowKit Go.ChangeShapes Go.WideShapes Go.ChangeAt
open Go.Proofs.Tryz (lP)
theorem Tryz.own:ownKnob Tryz.prog.godebug=none:=by kernel_rfl
theorem Tryz.laidOut:laidOutB Tryz.prog=true:=by kernel_rfl
theorem Tryz.g0:Tryz.prog.globalNamed "rivermark/hash.constants"=some 0:=by kernel_rfl
theorem Tryz.Q1:(Tryz.prog.globals[0]?).map (·.type)=some 223:=by kernel_rfl
noncomputable def Ju(os:Os):World:=
  {World.holding Tryz.prog os ⟨#[],#[],[]⟩with heap:=((((World.holding Tryz.prog os ⟨#[],#[],[]⟩).heap.modify 0 fun
      |.cells _ t frozen=>.cells (za.map fun z=>Value.int .u32 z).toArray t frozen
      |o=>o).modify 2 fun
      |.cells _ t frozen=>.cells (Pinned.utf8FirstZ.map fun(z:Nat)=>Value.int .u8 z).toArray t frozen
      |o=>o).modify 3 fun
      |.cells _ t frozen=>.cells ((([128,191,160,191,128,159,144,191,128,143]:List Int)++List.replicate 22 0).map fun z=>Value.int .u8 z).toArray t frozen
      |o=>o)}
theorem WQ(os:Os)(args:Array Value):laidMet Tryz.prog Rows.segmentsJoinRow.laid ((Ju os).forCall (fun _ _=>0) ⟨#[],args,[]⟩).memory:=
  laidMet_of_run' 8 (by kernel_rfl) (by kernel_rfl)
theorem SX{W:World}(hL:laidMet Tryz.prog [("unicode/utf8.acceptRanges",Rows.laid_unicode_utf8_acceptRanges),("rivermark/hash.constants",Lib.tabData .u32 za),("unicode/utf8.first",Rows.laid_unicode_utf8_first)] W):nt (o6 W):=by
  have l0:=laidMet.tail hL;have t0:=UM (Lib.tabIs_of_head Tryz.g0 Tryz.Q1 Tryz.underlying223 Tryz.underlying154 (by kernel_rfl) (by kernel_rfl) l0) Tryz.g0;intro g ds h;unfold sw at h;split at h
  · cases h;exact t0
  · cases h
set_option maxRecDepth 100000 in
theorem WD(hc:∀x:cn lP,BP lP x→de Tryz.prog 5 (y8 lP x) [] (.D (.B true)) [] [])
    (os:Os) (started:os.Started) (H:Type) (enc:TypeId×Value→H):
    ReturnsInHanded {} Tryz.checked os 5 .any (fun w args=>(Rows.segmentsJoinSpec.pre enc Tryz.prog Tryz.f5 Rows.segmentsJoinRow.domain false w args∧laidMet Tryz.prog Rows.segmentsJoinRow.laid w)∧sizedMet enc Tryz.prog Tryz.f5 (OpenSpec.ofChange Rows.segmentsJoinSpec) false w args) (Rows.segmentsJoinSpec.post enc Tryz.prog Tryz.f5 false true false false):=by
  refine returnsInHanded_of_change_and (C:=Tryz.checked) (X:=fun w _=>laidMet Tryz.prog Rows.segmentsJoinRow.laid w) (fun _ _ _ hh h=>laidMet.of_heap hh h) Tryz.own started (by kernel_rfl) Tryz.func5
    (ChangeSpec.witness_at (enc:=enc) (C:=Tryz.checked) (os:=os) (X:=fun w _=>laidMet Tryz.prog Rows.segmentsJoinRow.laid w) false (Ju os) #[.slice none 0 0,.slice none 0 0,.slice none 0 0] 8 rfl (by kernel_rfl) (by kernel_rfl) (by kernel_rfl) (by kernel_rfl) (by kernel_rfl) (WQ os _)) ?_
  intro W base args ds gs before hval0 hW _ _ hL _;have hval:∀(j:Nat) t v,Tryz.f5.params[j]?=some t→args[j]?=some v→Value.okWide Tryz.prog W .any base t v:=hval0;have hW':=hW;obtain⟨p,q,hA0,hV,rfl,hfz,hnd⟩:=hW;have hA:DataW.TrodAll enc Tryz.prog W 0 (fun _=>true) true Tryz.f5.params.toList args.toList ds p:=hA0;rw[Tryz.params5]at hA hval;obtain⟨rfl,rfl⟩:=trodVars_none hV;obtain⟨x,hx,hrep⟩:=KB (m:=fun _=>none) (Ts:=lP) (ts:=[22,23,80]) (base:=base) (by kernel_rfl) hA (fun j t v h1 h2=>hval j t v (by simpa using h1) (by simpa using h2));obtain⟨_,vs1,d0,ds1,_,_,_,rfl,_,_,hA1⟩:=trodAll_cons hA;obtain⟨_,vs2,d1,ds2,_,_,rfl,rfl,_,_,hA2⟩:=trodAll_cons hA1;obtain⟨_,vs3,d2,ds3,_,_,rfl,rfl,_,_,hA3⟩:=trodAll_cons hA2;obtain⟨rfl,rfl,_⟩:=trodAll_nil hA3;refine(UR ⟨Tryz.f5,Tryz.func5,by kernel_rfl,by kernel_rfl⟩ (SX hL) (vs:=args) (hc x hx) hrep).mono fun e W' ⟨he,hb⟩=>?_;exact⟨_,he,RI (tb:=4) Tryz.laidOut hW' rfl rfl (by rfl) Tryz.underlying4 (by rw[Tryz.params5];decide+kernel) hb⟩
theorem Rg(hc:∀x:cn lP,BP lP x→de Tryz.prog 5 (y8 lP x) [] (.D (.B true)) [] []):Rows.SegmentsJoinSaid:=
  OpenClaim.holds_of_wide 5 Tryz.f5 rfl rfl rfl rfl rfl rfl rfl ⟨rfl,rfl,rfl,rfl,rfl⟩ rfl rfl rfl rfl rfl (by kernel_rfl) Tryz.func5 (by kernel_rfl)
    (of_decide_eq_true (by kernel_rfl)) (by unfold Func.isWrapper;first|(rw[if_pos (by decide+kernel)];kernel_rfl)|(rw[if_neg (by decide+kernel)];exact⟨rfl,rfl⟩))
    (fun os started H enc _=>WD hc os started H enc)
theorem bA5:Rows.SegmentsJoinSaid:=Rg Go.Proofs.Tryz.ox
theorem join_card:Rows.SegmentsJoinCardSaid:=
  Claim7.holds_tied_plain_at .later [] [.data,.data,.pinned] true (true,"5ede771ee4b7715823b03378c7d23a47e2f93f051d795c06d729354d3baed675") true bA5 (fun _ h=>by cases h) (by kernel_rfl) (fun _ h=>by cases h) segmentsJoin_row_tie rfl ⟨rfl,rfl⟩ (by kernel_rfl) rfl
    (fun f fn hf hfn=>by
      obtain rfl:f=5:=Option.some.inj ((show Tryz.prog.funcNamed "rivermark/rivermarklaw28.SegmentsJoin"=some 5 by kernel_rfl).symm.trans hf)|>.symm;obtain rfl:fn=Tryz.f5:=(Option.some.inj (Tryz.func5.symm.trans hfn)).symm;exact⟨by kernel_rfl,fun j t ht=>by
        rw[Tryz.params5]at ht;have hm:t∈[22,23,80]:=by obtain⟨hj,e⟩:=Array.getElem?_eq_some_iff.1 ht;rw[←e];exact Array.getElem_mem_toList hj
        have ha:∀t∈[22,23,80],Tryz.prog.wantsStandIn t=false:=by decide+kernel
        exact ha t hm⟩)
    (by kernel_rfl)
end Go.Proofs.YtoklpgfaedjjpaaGreatDoor
