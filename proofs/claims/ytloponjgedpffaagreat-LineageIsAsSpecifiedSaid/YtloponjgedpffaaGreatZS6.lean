/- Texts of this claim. -/
import Derived.Test.YtloponjgedpffaaGreatZP6
import Derived.Test.YtloponjgedpffaaGreatRows
set_option linter.all false
set_option linter.unusedSimpArgs false
set_option linter.unusedVariables false
namespace Go.Proofs.YtloponjgedpffaaGreat
open Go.Eng Go.RowKit Go.ChangeShapes Go.WideShapes Go.ChangeAt
abbrev gD:List Ty:=[.sl (.w (.p (.i .i64) (.p (.sl (.w (.p (.i .i64) (.p (.i .i64) (.p (.i .i64) (.i .i64)))))) (.sl (.i .i64))))),.w (.p (.i .i64) (.p (.sl (.w (.p (.i .i64) (.p (.i .i64) (.p (.i .i64) (.i .i64)))))) (.sl (.i .i64)))),.w (.p (.sl (.w (.p (.i .i64) (.p (.i .i64) (.p (.i .i64) (.i .i64)))))) (.p (.i .i64) (.w (.p (.sl (.i .i64)) (.i .i64)))))]
theorem Tryz.own:ownKnob Tryz.prog.godebug=none:=by kernel_rfl
theorem Tryz.laidOut:laidOutB Tryz.prog=true:=by kernel_rfl
theorem bHc {W:World}:GlOk (gOf W):=fun g ds h=>by cases h
set_option maxRecDepth 100000 in
theorem aLu (hc:∀ x:tup gD,aLk gD x->ACall Tryz.prog 3 (aHi gD x) [] (.D (.B true)) [] [])
  (os:Os) (started:os.Started) (H:Type) (enc:TypeId × Value->H) :
  ReturnsInHanded {} Tryz.checked os 3 .any (Rows.lineageIsAsSpecifiedSpec.pre6 enc Tryz.prog Tryz.f3 Rows.lineageIsAsSpecifiedRow.domain false) (Rows.lineageIsAsSpecifiedSpec.post enc Tryz.prog Tryz.f3 false true false false):=by
 refine returnsInHanded_of_change (C:=Tryz.checked) Tryz.own started (by kernel_rfl) Tryz.func3
  (ChangeSpec.witness6 (enc:=enc) (C:=Tryz.checked) false ⟨#[],#[.slice none 0 0,.agg #[.int .i64 0,.slice none 0 0,.slice none 0 0],.agg #[.slice none 0 0,.int .i64 0,.slice none 0 0,.int .i64 0]],[]⟩ 8 (by kernel_rfl) (by kernel_rfl) (by kernel_rfl) (by kernel_rfl)) ?_
 intro W base args ds gs before hval0 hW hcnd _
 have hval:∀ (j:Nat) t v,Tryz.f3.params[j]?=some t->args[j]?=some v->Value.okWide Tryz.prog W .any base t v:=hval0
 have hW':=hW
 obtain ⟨p,q,hA0,hV,rfl,hfz,hnd⟩:=hW
 have hA:DataW.TrodAll enc Tryz.prog W 0 (fun _=>true) true Tryz.f3.params.toList args.toList ds p:=hA0
 rw [Tryz.params3] at hA hval
 obtain ⟨rfl,rfl⟩:=trodVars_none hV
 obtain ⟨x,hx,hrep⟩:=aLi (m:=fun _=>none) (Ts:=gD) (ts:=[22,26,31]) (base:=base) (by kernel_rfl) hA (fun j t v h1 h2=>hval j t v (by simpa using h1) (by simpa using h2))
 obtain ⟨_,vs1,d0,ds1,_,_,_,rfl,_,_,hA1⟩:=trodAll_cons hA
 obtain ⟨_,vs2,d1,ds2,_,_,rfl,rfl,_,_,hA2⟩:=trodAll_cons hA1
 obtain ⟨_,vs3,d2,ds3,_,_,rfl,rfl,_,_,hA3⟩:=trodAll_cons hA2
 obtain ⟨rfl,rfl,_⟩:=trodAll_nil hA3
 refine (aUd ⟨Tryz.f3,Tryz.func3,by kernel_rfl,by kernel_rfl⟩ bHc (vs:=args) (hc x hx) hrep).mono fun e W' ⟨he,hb⟩=>?_
 exact ⟨_,he,aW2 (tb:=4) Tryz.laidOut hW' rfl rfl (by rfl) Tryz.underlying4 (by rw [Tryz.params3];decide +kernel) hb⟩
theorem aPv (hc:∀ x:tup gD,aLk gD x->ACall Tryz.prog 3 (aHi gD x) [] (.D (.B true)) [] []):Rows.LineageIsAsSpecifiedSaid :=
 OpenClaim.holds_of_wide 3 Tryz.f3 rfl rfl rfl rfl rfl rfl rfl ⟨rfl,rfl,rfl,rfl,rfl⟩ rfl rfl rfl rfl rfl (by kernel_rfl) Tryz.func3 (by kernel_rfl)
  (of_decide_eq_true (by kernel_rfl)) (by unfold Func.isWrapper;first | (rw [if_pos (by decide +kernel)];kernel_rfl) | (rw [if_neg (by decide +kernel)];exact ⟨rfl,rfl⟩))
  (fun os started H enc _=>aLu hc os started H enc)
theorem aVe (N:Nat) (x0:(gD[0]).T) (x1:(gD[1]).T) (x2:(gD[2]).T) (h:Go.Proofs.Tryz.G_law26_LineageIsAsSpecified N x0 x1 x2=some true):ACall Tryz.prog 3 (aHi gD (x0,x1,x2,())) [] (.D (.B true)) [] [] :=
 letI:YL:=⟨0⟩
 Go.Proofs.Tryz.s_law26_LineageIsAsSpecified N (x0,x1,x2,()) true h [] rfl
theorem aP0:∀ x:tup gD,aLk gD x->ACall Tryz.prog 3 (aHi gD x) [] (.D (.B true)) [] []
 | (x0,x1,x2,()),hx=>aVe 6000 x0 x1 x2 (Go.Proofs.Tryz.spec_true x0 x1 x2.1 x2.2.1 x2.2.2 (fun d hd x hxx=>(((hx.1.2 d hd).2.1.2 x hxx).2.1.2)) (fun x hxx=>((hx.2.1.2.1.2 x hxx).2.1.2)))
theorem spec_said:Rows.LineageIsAsSpecifiedSaid:=aPv aP0
end Go.Proofs.YtloponjgedpffaaGreat

