import Derived.Test.YtjhhgpencphgoaaDoorE23
set_option linter.unusedSimpArgs false
set_option linter.unusedVariables false
namespace Go.Eng
open Go.RowKit

def rI (k : IntKind) (x : Int) : List DV := [.I k x]
def rB (x : Bool) : List DV := [.B x]
def rS (x : Str) : List DV := [.S x]
def rL {α : Type} (f : α → List DV) (xs : List α) : List DV := [.L (xs.map f)]
theorem rI_uni {k : IntKind} {xs : List Int} : Uni 1 (xs.map (rI k)) = True := uni_map (f := (rI k)) fun _ => rfl
theorem rI_one {k : IntKind} {xs : List Int} : oneL (xs.map (rI k)) = true := one_map fun _ => rfl
theorem rB_uni {xs : List Bool} : Uni 1 (xs.map rB) = True := uni_map (f := rB) fun _ => rfl
theorem rB_one {xs : List Bool} : oneL (xs.map rB) = true := one_map fun _ => rfl
theorem rS_uni {xs : List Str} : Uni 1 (xs.map rS) = True := uni_map (f := rS) fun _ => rfl
theorem rS_one {xs : List Str} : oneL (xs.map rS) = true := one_map fun _ => rfl
theorem rL_uni {α : Type} {f : α → List DV} {xs : List (List α)} : Uni 1 (xs.map (rL f)) = True := uni_map (f := (rL f)) fun _ => rfl
theorem rL_one {α : Type} {f : α → List DV} {xs : List (List α)} : oneL (xs.map (rL f)) = true := one_map fun _ => rfl
theorem rI_ {k : IntKind} {x : Int} : rI k x = [.I k x] := (rfl)
theorem rB_ {x : Bool} : rB x = [.B x] := (rfl)
theorem rS_ {x : Str} : rS x = [.S x] := (rfl)
theorem rL_ {α : Type} {f : α → List DV} {xs : List α} : rL f xs = [.L (xs.map f)] := (rfl)

attribute [push_cast] c_skip c_reg c_seq c_cond c_block c_exit c_scope c_ret x_seqN x_seqE x_seqR x_blkN x_blkR x_blkE x_scN x_scR x_scE cd_T cd_F o_nil o_cons o_guard g_T g_TF g_FT g_un s_put s_env s_tmp s_cI s_cB s_cS s_cN s_fn s_lkO s_lkB s_nx s_bs s_own s_setO s_setB d_some d_none f_B f_O f_Bc f_Oc a_nil a_cons u_get ks_ kv_ oL_get aL_get eL_cons eL_nil kpL_nil kpL_cons lkS_O lkS_B phi_B p_mv p_pick k_pT k_pF p_new p_box k_box p_build ab_nil ab_cons k_ab p_bslice0 p_bslice k_bs p_load ld_p0 ld_p1 ld_e0 ld_e1 ld_r0 ld_r1 mA_s mD_s mR_s mC_s ld0_b ld1_b le0_r le1_r el0_s el1_s p_store so_p so_e st_b se_r se_s p_bin b_II b_SS aint astr p_eqs eq0_a eq1_s p_beq beq_B p_un un_B un_I p_faddr fa_p fa_e fa_r p_field0 p_field f0_a f1_a p_ext ex_t p_len len_s p_isnil nil_0 nil_s p_mm mm_I p_mkf p_cvI cv_I p_cvS cvS_0 cvS_1 p_app app_0 app_n app_c p_iaddr ia_L ia_f ia_s p_sll bd_n bd_s bOk_n bOk_s bN_n bN_s sll_L sll_f sll_s afill sameCells
attribute [push_cast] Option.join_some Option.join_none AV.live AV.cells? AV.one AV.allOne AV.len? AV.isS DV.same ne_eq not_false_eq_true not_true_eq_false if_true if_false ite_true ite_false and_true true_and List.length_cons List.length_nil List.getElem?_cons_zero List.getElem?_cons_succ List.getElem?_nil List.take_succ_cons List.take_zero List.drop_succ_cons List.drop_zero List.nil_append List.cons_append List.append_nil List.map_cons List.map_nil List.drop_nil List.take_nil List.reverse_cons List.reverse_nil Option.isSome_some Bool.true_and Bool.and_true Bool.not_true Bool.not_false Bool.false_eq_true Nat.zero_add Nat.add_zero Nat.zero_le Nat.le_refl List.getD_cons_zero List.getD_cons_succ List.getD_nil
attribute [push_cast] p_appE apE_s apE_f apE_n apN_s app_z kS_ oS_nil oS_cons kh_nil kh_consT kh_consF shp_r lh_p lo_N ldK_f ldK_t ldK_fa p_loadS p_faddrS faS_p faS_e ls_p isS p_clr clr_s clr_r p_cpy cpy_s cpy_k cpy_r sll_k p_capK cap_k p_appZ apZ_0 apZ_1 p_mks mks_I f_BO f_Bn apE_0 apE_1 own0_eq fz_nil fz_cons bk_O bk_B uni_nil uni_cons uni_app one_nil one_cons one_app oneD_B oneD_I oneD_S oneD_L rI_uni rI_one rB_uni rB_one rS_uni rS_one rL_uni rL_one rI_ rB_ rS_ rL_
attribute [push_cast] castN_lit lh_e lh_s ldK_s ldK_a ls_e p_iaddrA iaA_p iaA_e iaA_r p_idxA ixA_0 ixA_1 p_slsA slA_0 slA_1 p_arrP arP_0 arP_1 p_nilc nc_p nc_e nc_r p_eqa eqA_0 eqA_1 p_eqg eqG_0 eqG_1 esh_B esh_B0 esh_I esh_I0 esh_S esh_S0 esh_a esh_a0 ksh_1 ksh_2 Option.map_some p_sl3 sl3_L sl3_f le2_t le2_f ea_1 ea_n se2_t se2_f p_newR p_boxR nwR_s data_map data_app intsL_map flat_ones allOne_I allOne_app
attribute [push_cast] List.length_map List.map_append List.map_drop List.map_take List.map_set List.length_append List.length_set List.all_cons List.all_nil Int.le_refl  List.toList_toArray Bool.and_false Bool.false_and Bool.and_self true_or or_true false_or or_false and_self and_false false_and eq_self

end Go.Eng
