/- For every input that the row takes, LeafRootsAsSpecified answers true and leaves its arguments as they were. No condition but the row's own. -/
import Derived.Test.YtjcdfjldcinopaaGreatDoorLQ
import Derived.Test.YtjcdfjldcinopaaGreatDoorRows
import Derived.Test.YtjcdfjldcinopaaGreatDoorCards
import Derived.Test.YtjcdfjldcinopaaGreatDoorTie
import Derived.SevenTiedAt
import Derived.LaidLaws
import Derived.Stop.LaidErr
set_option linter.all false
namespace Go.Proofs.YtjcdfjldcinopaaGreatDoor
open Go.Eng Go.RowKit Go.ChangeShapes Go.WideShapes Go.ChangeAt
open Go.Proofs.Tryz (dF)
theorem Tryz.own:ownKnob Tryz.prog.godebug=none:=by kernel_rfl
theorem Tryz.laidOut:laidOutB Tryz.prog=true:=by kernel_rfl
theorem Tryz.g0:Tryz.prog.globalNamed "rivermark/calendar.lengths"=some 0:=by kernel_rfl
theorem Tryz.gt0:(Tryz.prog.globals[0]?).map (·.type)=some 200:=by kernel_rfl
theorem Tryz.g1:Tryz.prog.globalNamed "rivermark/hash.constants"=some 1:=by kernel_rfl
theorem Tryz.gt1:(Tryz.prog.globals[1]?).map (·.type)=some 206:=by kernel_rfl
theorem Tryz.g2:Tryz.prog.globalNamed "rivermark/rivermarkref02.constants"=some 2:=by kernel_rfl
theorem Tryz.gt2:(Tryz.prog.globals[2]?).map (·.type)=some 206:=by kernel_rfl
noncomputable def aKt(os:Os):World:=
  {World.holding Tryz.prog os ⟨#[],#[],[]⟩with heap:=((((World.holding Tryz.prog os ⟨#[],#[],[]⟩).heap.modify 0 fun
      |.cells _ t frozen=>.cells (gl0.map fun z=>Value.int .i64 z).toArray t frozen
      |o=>o).modify 1 fun
      |.cells _ t frozen=>.cells (gl1.map fun z=>Value.int .u32 z).toArray t frozen
      |o=>o).modify 2 fun
      |.cells _ t frozen=>.cells (gl2.map fun z=>Value.int .u32 z).toArray t frozen
      |o=>o)}
theorem aYa(os:Os)(args:Array Value):laidMet Tryz.prog Rows.leafRootsAsSpecifiedRow.laid ((aKt os).forCall (fun _ _=>0) ⟨#[],args,[]⟩).memory:=
  laidMet_of_run' 8 (by kernel_rfl) (by kernel_rfl)
theorem bN1{W:World}(hL:laidMet Tryz.prog [("rivermark/rivermarkref02.constants",Lib.tabData .u32 gl2),("rivermark/calendar.lengths",Lib.tabData .i64 gl0),("rivermark/hash.constants",Lib.tabData .u32 gl1)] W):GlOk (gOf W):=by
  have t2:=aIx (Lib.tabIs_of_head Tryz.g2 Tryz.gt2 Tryz.underlying206 Tryz.underlying185 (by kernel_rfl) (by kernel_rfl) hL) Tryz.g2;have l0:=laidMet.tail hL;have t0:=aIx (Lib.tabIs_of_head Tryz.g0 Tryz.gt0 Tryz.underlying200 Tryz.underlying3 (by kernel_rfl) (by kernel_rfl) l0) Tryz.g0;have l1:=laidMet.tail l0;have t1:=aIx (Lib.tabIs_of_head Tryz.g1 Tryz.gt1 Tryz.underlying206 Tryz.underlying185 (by kernel_rfl) (by kernel_rfl) l1) Tryz.g1;intro g ds h;unfold aJd at h;split at h
  · cases h;exact t0
  · cases h;exact t1
  · cases h;exact t2
  · cases h
set_option maxRecDepth 100000 in
theorem aNa(hc:∀x:tup dF,aOv dF x→ACall Tryz.prog 3 (aLj dF x) [] (.D (.B true)) [] [])
    (os:Os) (started:os.Started) (H:Type) (enc:TypeId×Value→H):
    ReturnsInHanded {} Tryz.checked os 3 .any (fun w args=>(Rows.leafRootsAsSpecifiedSpec.pre enc Tryz.prog Tryz.f3 Rows.leafRootsAsSpecifiedRow.domain false w args∧laidMet Tryz.prog Rows.leafRootsAsSpecifiedRow.laid w)∧sizedMet enc Tryz.prog Tryz.f3 (OpenSpec.ofChange Rows.leafRootsAsSpecifiedSpec) false w args) (Rows.leafRootsAsSpecifiedSpec.post enc Tryz.prog Tryz.f3 false true false false):=by
  refine returnsInHanded_of_change_and (C:=Tryz.checked) (X:=fun w _=>laidMet Tryz.prog Rows.leafRootsAsSpecifiedRow.laid w) (fun _ _ _ hh h=>laidMet.of_heap hh h) Tryz.own started (by kernel_rfl) Tryz.func3
    (ChangeSpec.witness_at (enc:=enc) (C:=Tryz.checked) (os:=os) (X:=fun w _=>laidMet Tryz.prog Rows.leafRootsAsSpecifiedRow.laid w) false (aKt os) #[.agg #[.int .i64 0,.int .i64 0,.slice none 0 0],.string ⟨#[]⟩,.agg #[.int .u8 0,.int .u8 0,.int .u8 0,.int .u8 0,.int .u8 0,.int .u8 0,.int .u8 0,.int .u8 0,.int .u8 0,.int .u8 0,.int .u8 0,.int .u8 0,.int .u8 0,.int .u8 0,.int .u8 0,.int .u8 0,.int .i64 0,.int .i64 0,.int .u8 0,.int .u8 0,.int .u8 0,.int .u8 0,.int .u8 0,.int .u8 0,.int .u8 0,.int .u8 0,.int .u8 0,.int .u8 0,.int .u8 0,.int .u8 0,.int .u8 0,.int .u8 0,.int .u8 0,.int .u8 0,.slice none 0 0,.int .i64 0,.int .i64 0,.int .u8 0,.int .u8 0,.int .u8 0,.int .u8 0,.int .u8 0,.int .u8 0,.int .u8 0,.int .u8 0,.int .u8 0,.int .u8 0,.int .u8 0,.int .u8 0,.int .u8 0,.int .u8 0,.int .u8 0,.int .u8 0,.string ⟨#[]⟩,.string ⟨#[]⟩,.slice none 0 0,.slice none 0 0]] 8 rfl (by kernel_rfl) (by kernel_rfl) (by kernel_rfl) (by kernel_rfl) (by kernel_rfl) (aYa os _)) ?_
  intro W base args ds gs before hval0 hW _ _ hL _;have hval:∀(j:Nat) t v,Tryz.f3.params[j]?=some t→args[j]?=some v→Value.okWide Tryz.prog W .any base t v:=hval0;have hW':=hW;obtain⟨p,q,hA0,hV,rfl,hfz,hnd⟩:=hW;have hA:DataW.TrodAll enc Tryz.prog W 0 (fun _=>true) true Tryz.f3.params.toList args.toList ds p:=hA0;rw[Tryz.params3]at hA hval;obtain⟨rfl,rfl⟩:=trodVars_none hV;obtain⟨x,hx,hrep⟩:=aPp (m:=fun _=>none) (Ts:=dF) (ts:=[24,9,33]) (base:=base) (by kernel_rfl) hA (fun j t v h1 h2=>hval j t v (by simpa using h1) (by simpa using h2));obtain⟨_,vs1,d0,ds1,_,_,_,rfl,_,_,hA1⟩:=trodAll_cons hA;obtain⟨_,vs2,d1,ds2,_,_,rfl,rfl,_,_,hA2⟩:=trodAll_cons hA1;obtain⟨_,vs3,d2,ds3,_,_,rfl,rfl,_,_,hA3⟩:=trodAll_cons hA2;obtain⟨rfl,rfl,_⟩:=trodAll_nil hA3;refine(aWd ⟨Tryz.f3,Tryz.func3,by kernel_rfl,by kernel_rfl⟩ (bN1 hL) (vs:=args) (hc x hx) hrep).mono fun e W' ⟨he,hb⟩=>?_;exact⟨_,he,aZl (tb:=4) Tryz.laidOut hW' rfl rfl (by rfl) Tryz.underlying4 (by rw[Tryz.params3];decide+kernel) hb⟩
theorem aPc(hc:∀x:tup dF,aOv dF x→ACall Tryz.prog 3 (aLj dF x) [] (.D (.B true)) [] []):Rows.LeafRootsAsSpecifiedSaid:=
  OpenClaim.holds_of_wide 3 Tryz.f3 rfl rfl rfl rfl rfl rfl rfl ⟨rfl,rfl,rfl,rfl,rfl⟩ rfl rfl rfl rfl rfl (by kernel_rfl) Tryz.func3 (by kernel_rfl)
    (of_decide_eq_true (by kernel_rfl)) (by unfold Func.isWrapper;first|(rw[if_pos (by decide+kernel)];kernel_rfl)|(rw[if_neg (by decide+kernel)];exact⟨rfl,rfl⟩))
    (fun os started H enc _=>aNa hc os started H enc)
theorem aTb:Rows.LeafRootsAsSpecifiedSaid:=aPc Go.Proofs.Tryz.roots_acall
theorem roots_card:Rows.LeafRootsAsSpecifiedCardSaid:=
  Claim7.holds_tied_plain_at .later [] [.data,.data,.data] true (true,"9a737f114f7d0f4064c359a5961274b907a5bcffab745cc0f882df0ab73e6e6b") true aTb (fun _ h=>by cases h) (by kernel_rfl) (fun _ h=>by cases h) leafRootsAsSpecified_row_tie rfl ⟨rfl,rfl⟩ (by kernel_rfl) rfl
    (fun f fn hf hfn=>by
      obtain rfl:f=3:=Option.some.inj ((show Tryz.prog.funcNamed "rivermark/rivermarklaw23.LeafRootsAsSpecified"=some 3 by kernel_rfl).symm.trans hf)|>.symm;obtain rfl:fn=Tryz.f3:=(Option.some.inj (Tryz.func3.symm.trans hfn)).symm;exact⟨by kernel_rfl,fun j t ht=>by
        rw[Tryz.params3]at ht;have hm:t∈[24,9,33]:=by obtain⟨hj,e⟩:=Array.getElem?_eq_some_iff.1 ht;rw[←e];exact Array.getElem_mem_toList hj
        have ha:∀t∈[24,9,33],Tryz.prog.wantsStandIn t=false:=by decide+kernel
        exact ha t hm⟩)
    (by kernel_rfl)
end Go.Proofs.YtjcdfjldcinopaaGreatDoor
