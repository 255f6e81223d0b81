/- Texts of this claim. -/
import Derived.Test.YtloponjgedpffaaGreatLZ4
import Derived.Test.YtloponjgedpffaaGreatYB
set_option linter.all false
set_option linter.unusedSimpArgs false
set_option linter.unusedVariables false
set_option synthInstance.maxSize 100000000
set_option synthInstance.maxHeartbeats 4000000
set_option maxRecDepth 100000
namespace Go.Proofs.Tryz
open Go.Eng Go.RowKit
abbrev Rd:=Int × Int × Int × Int
abbrev De:=Int × List Rd × List Int
abbrev Ch:=Int × Int × Int × Int
theorem lt_t {a b:Nat} (h:a < b):decide ((a:Int) < ((b:Nat):Int))=true:=decide_eq_true (by omega)
theorem lt_f {a b:Nat} (h:¬ a < b):decide ((a:Int) < ((b:Nat):Int))=false:=decide_eq_false (by omega)
theorem getn {α:Type} {l:List α} {k:Nat} (h:k < l.length):l[k]?=some l[k]:=List.getElem?_eq_getElem h
def asc:List Int->Bool
 | []=>true
 | [_]=>true
 | a :: b :: r=>!decide (b <= a) && asc (b :: r)
theorem asc_loop {l:List Int} (hl:l.length <= 4611686018427387904):∀ (m k:Nat),1 <= k->l.length - k < m->L_lineage_ascends_0 m l (k:Int)=some (asc (l.drop (k - 1)))
 | 0,_,_,h=>absurd h (Nat.not_lt_zero _)
 | m + 1,k,h1,h=>by
  show B_lineage_ascends_0 (L_lineage_ascends_0 m) l _=_
  unfold B_lineage_ascends_0
  by_cases hlt:k < l.length
  ·have e:((k:Int) - 1).toNat=k - 1:=by omega
   rw [lt_t hlt,q_if1,q_get (getn hlt),q_ck (by omega) (by omega),q_geti (by omega) (by rw [e];exact getn (by omega)),q_if]
   rw [List.drop_eq_getElem_cons (show k - 1 < l.length by omega),show k - 1 + 1=k by omega,List.drop_eq_getElem_cons hlt,asc]
   by_cases hc:l[k] <= l[k - 1]
   ·rw [if_pos (decide_eq_true hc),decide_eq_true hc];rfl
   ·rw [if_neg (by simpa using hc),decide_eq_false hc,q_ck (by omega) (by omega)]
    have:=asc_loop hl m (k + 1) (by omega) (by omega)
    rw [show ((k:Int) + 1)=((k + 1:Nat):Int) by omega,this,show k + 1 - 1=k by omega,List.drop_eq_getElem_cons hlt];rfl
  ·rw [lt_f hlt,q_if0]
   have:(l.drop (k - 1)).length <= 1:=by rw [List.length_drop];omega
   match hd:l.drop (k - 1),this with
   | [],_=>rfl
   | [_],_=>rfl
theorem ascends_eq {N:Nat} {l:List Int} (hl:l.length <= 4611686018427387904) (hN:l.length < N):G_lineage_ascends N l=some (asc l):=by
 unfold G_lineage_ascends
 exact asc_loop hl N 1 (Nat.le_refl _) (by omega)
theorem asc_iff:∀ {l:List Int},asc l=true ↔ l.Pairwise (· < ·)
 | []=>by simp [asc]
 | [_]=>by simp [asc]
 | a :: b :: r=>by
  have ih:=asc_iff (l:=b :: r)
  unfold asc
  rw [Bool.and_eq_true,ih,List.pairwise_cons (a:=a)]
  constructor
  ·rintro ⟨h1,h2⟩
   have h1:a < b:=by simpa using h1
   refine ⟨fun x hx=>?_,h2⟩
   rcases List.mem_cons.1 hx with rfl | hx
   ·exact h1
   ·exact Int.lt_trans h1 (List.rel_of_pairwise_cons h2 hx)
  ·rintro ⟨h1,h2⟩
   exact ⟨by simpa using h1 b List.mem_cons_self,h2⟩
def badR (x:Rd):Bool:=decide (x.1 < 0) || decide (x.1 ≥ 40) || decide (x.2.2.1 < 0) || decide (x.2.2.2 <= x.2.2.1) || decide (x.2.2.2 > 1402560) || decide (x.2.1 <= 0) || (bits .andNot .i64 x.2.1 15) != 0
def ofOk (id:Int) (l:List Int):Bool:=match l with
 | []=>true
 | a :: r=>decide (a ≥ 1) && decide ((a :: r).getLast (by simp) < id)
def rightB (d:De):Bool:=!(decide (d.1 < 1) || decide (d.1 > 1099511627776) || decide ((d.2.1.length:Int) > 40) || !asc d.2.2) && !d.2.1.any badR && ofOk d.1 d.2.2
theorem right_loop {id:Int} {rs:List Rd} {of:List Int} (hr:rs.length <= 4611686018427387904) (ho:of.length <= 4611686018427387904):∀ (m k:Nat),k <= rs.length->rs.length - k < m ->
  L_lineage_right_0 m rs ((rs.length:Nat):Int) (k:Int) id rs of=some (!(rs.drop k).any badR && ofOk id of)
 | 0,_,_,h=>absurd h (Nat.not_lt_zero _)
 | m + 1,k,h1,h=>by
  show B_lineage_right_0 (L_lineage_right_0 m) rs _ _ _ rs of=_
  unfold B_lineage_right_0
  by_cases hlt:k < rs.length
  ·rw [lt_t hlt,q_if1,q_get (getn hlt),List.drop_eq_getElem_cons hlt,List.any_cons]
   generalize hx:rs[k]=x
   have main:bd? (if? (decide (x.1 < 0)) (some (rs,((rs.length:Nat):Int),(k:Int),true,id,rs,of)) (if? (decide (x.1 ≥ 40)) (some (rs,((rs.length:Nat):Int),(k:Int),true,id,rs,of)) (if? (decide (x.2.2.1 < 0)) (some (rs,((rs.length:Nat):Int),(k:Int),true,id,rs,of)) (if? (decide (x.2.2.2 <= x.2.2.1)) (some (rs,((rs.length:Nat):Int),(k:Int),true,id,rs,of)) (if? (decide (x.2.2.2 > 1402560)) (some (rs,((rs.length:Nat):Int),(k:Int),true,id,rs,of)) (if? (decide (x.2.1 <= 0)) (some (rs,((rs.length:Nat):Int),(k:Int),true,id,rs,of)) (some (rs,((rs.length:Nat):Int),(k:Int),((bits .andNot .i64 x.2.1 15) != 0),id,rs,of)))))))) (fun w:List Rd × Int × Int × Bool × Int × List Rd × List Int=>if? w.2.2.2.1 (some false) (ck .i64 (w.2.2.1 + 1) (L_lineage_right_0 m w.1 w.2.1 (w.2.2.1 + 1) w.2.2.2.2.1 w.2.2.2.2.2.1 w.2.2.2.2.2.2))) =
     if? (badR x) (some false) (ck .i64 ((k:Int) + 1) (L_lineage_right_0 m rs ((rs.length:Nat):Int) ((k:Int) + 1) id rs of)):=by
    unfold badR
    cases decide (x.1 < 0) <;> cases decide (x.1 ≥ 40) <;> cases decide (x.2.2.1 < 0) <;> cases decide (x.2.2.2 <= x.2.2.1) <;> cases decide (x.2.2.2 > 1402560) <;> cases decide (x.2.1 <= 0) <;> rfl
   refine main.trans ?_
   cases hb:badR x with
   | true=>rfl
   | false =>
    rw [q_if0,q_ck (by omega) (by omega),show ((k:Int) + 1)=((k + 1:Nat):Int) by omega,right_loop hr ho m (k + 1) (by omega) (by omega)]
    rfl
  ·rw [lt_f hlt,q_if0,List.drop_of_length_le (by omega)]
   cases of with
   | nil=>rfl
   | cons a r =>
    have e0:((((a :: r).length:Nat):Int) == 0)=false:=by
     have:(((a :: r).length:Nat):Int) ≠ 0:=by simp;omega
     simpa using this
    rw [e0,q_if0,q_geti (x:=a) (by omega) rfl]
    have e1:((((a :: r).length:Nat):Int) - 1).toNat=(a :: r).length - 1:=by omega
    have hlen:(a :: r).length=r.length + 1:=rfl
    simp only [ofOk]
    by_cases ha:a ≥ 1
    ·rw [decide_eq_true ha,q_if1,q_ck (by omega) (by omega),q_geti (x:=(a :: r).getLast (by simp)) (by omega) (by rw [e1,getn (by omega),List.getLast_eq_getElem])]
     rfl
    ·rw [decide_eq_false ha,q_if0];rfl
theorem right_eq {N:Nat} {d:De} (hr:d.2.1.length <= 4611686018427387904) (ho:d.2.2.length <= 4611686018427387904) (h1:d.2.1.length < N) (h2:d.2.2.length < N):G_lineage_right N d=some (rightB d):=by
 unfold G_lineage_right rightB
 rw [ascends_eq ho h2]
 have hl:=right_loop (id:=d.1) (of:=d.2.2) hr ho N 0 (Nat.zero_le _) (by omega)
 rw [List.drop_zero] at hl
 cases decide (d.1 < 1) <;> cases decide (d.1 > 1099511627776) <;> cases decide ((d.2.1.length:Int) > 40) <;> cases asc d.2.2 <;> first | rfl | exact hl
abbrev ids (l:List De):List Int:=l.map (·.1)
abbrev Srt (l:List De):Prop:=(ids l).Pairwise (· < ·)
def cnt:List De->Int->Nat
 | [],_=>0
 | d :: r,id=>if d.1 < id then cnt r id + 1 else 0
theorem cnt_le:∀ (l:List De) (id:Int),cnt l id <= l.length
 | [],_=>Nat.le_refl _
 | d :: r,id=>by
  unfold cnt
  have:=cnt_le r id
  split <;> simp <;> omega
theorem cnt_lt {id:Int}:∀ {l:List De},Srt l->∀ (i:Nat) (h:i < l.length),l[i].1 < id ↔ i < cnt l id
 | [],_,i,h=>by cases h
 | d :: r,hs,i,h=>by
  have hs':(d.1 :: ids r).Pairwise (· < ·):=hs
  unfold cnt
  by_cases hd:d.1 < id
  ·rw [if_pos hd]
   cases i with
   | zero=>simpa using hd
   | succ i =>
    have:=cnt_lt (id:=id) hs'.tail i (by simpa using h)
    rw [List.getElem_cons_succ,this];omega
  ·rw [if_neg hd]
   cases i with
   | zero=>simpa using hd
   | succ i =>
    have hlt:i < r.length:=by simpa using h
    have:d.1 < r[i].1:=List.rel_of_pairwise_cons hs' (List.mem_map.2 ⟨r[i],List.getElem_mem hlt,rfl⟩)
    rw [List.getElem_cons_succ]
    constructor
    ·intro q;omega
    ·intro q;omega
theorem cnt_found {l:List De} (hs:Srt l) {id:Int}:(∃ h:cnt l id < l.length,l[cnt l id].1=id) ↔ id ∈ ids l:=by
 constructor
 ·rintro ⟨h,e⟩
  exact List.mem_map.2 ⟨_,List.getElem_mem h,e⟩
 ·intro h
  obtain ⟨d,hd,rfl⟩:=List.mem_map.1 h
  obtain ⟨j,hj,rfl⟩:=List.getElem_of_mem hd
  have h1:¬ j < cnt l l[j].1:=fun q=>by
   have:=(cnt_lt hs j hj).2 q;omega
  have h2:∀ i,(hi:i < j)->i < cnt l l[j].1:=fun i hi=>(cnt_lt hs i (by omega)).1 (by
   have:=List.pairwise_iff_getElem.1 hs i j (by rw [List.length_map];omega) (by rw [List.length_map];omega) hi
   simpa using this)
  have h3:cnt l l[j].1=j:=by
   rcases Nat.lt_or_ge (cnt l l[j].1) j with q | q
   ·exact absurd (h2 _ q) (Nat.lt_irrefl _)
   ·omega
  exact ⟨by omega,by simp [h3]⟩
def cmp3 (a b:Int):Int:=if a < b then -1 else if a > b then 1 else 0
theorem compare_eq {N:Nat} {a b:Int}:G_cmp_Compare_int N a b=some (cmp3 a b):=by
 unfold G_cmp_Compare_int G_cmp_isNaN_int cmp3
 rw [show (a != a)=false by simp,show (b != b)=false by simp]
 simp only [q_bd,q_if0]
 by_cases h:a < b
 ·rw [decide_eq_true h,if_pos h];rfl
 ·rw [decide_eq_false h,if_neg h]
  by_cases h2:a > b
  ·rw [decide_eq_true h2,if_pos h2];rfl
  ·rw [decide_eq_false h2,if_neg h2];rfl
theorem at1_eq {N:Nat} {d:De} {id:Int}:G_lineage_at_1 N d id=some (cmp3 d.1 id):=by
 unfold G_lineage_at_1
 rw [compare_eq];rfl
theorem mid_eq {n:Nat} (h:n <= 9223372036854775807):(IntKind.wrap .i64 ((IntKind.wrap .u64 (n:Int)) / (2 ^ 1)))=((n / 2:Nat):Int):=by
 rw [show IntKind.wrap .u64 (n:Int)=(n:Int) by rw [IntKind.wrap_u64];omega,q_wrap (by omega) (by omega)];omega
theorem bs_loop {N:Nat} {l:List De} (hs:Srt l) (hl:l.length <= 4611686018427387904) {id:Int}:∀ (m lo hi:Nat),lo <= cnt l id->cnt l id <= hi->hi <= l.length->hi - lo < m ->
  L_slices_BinarySearchFunc_Derived_Derived_0 N m l id ((l.length:Nat):Int) (lo:Int) (hi:Int)=some (((cnt l id:Nat):Int),decide (id ∈ ids l))
 | 0,_,_,_,_,_,h=>absurd h (Nat.not_lt_zero _)
 | m + 1,lo,hi,h1,h2,h3,h=>by
  show B_slices_BinarySearchFunc_Derived_Derived_0 N (L_slices_BinarySearchFunc_Derived_Derived_0 N m) l id _ _ _=_
  unfold B_slices_BinarySearchFunc_Derived_Derived_0
  by_cases hlt:lo < hi
  ·rw [lt_t hlt,q_if1,q_ck (by omega) (by omega),show (lo:Int) + (hi:Int)=((lo + hi:Nat):Int) by omega,mid_eq (by omega)]
   have hm:(lo + hi) / 2 < l.length:=by omega
   rw [q_get (getn hm),at1_eq (d:=l[(lo + hi) / 2])]
   simp only [q_bd]
   have hc:=cnt_lt (id:=id) hs _ hm
   by_cases hlt2:l[(lo + hi) / 2].1 < id
   ·have:=hc.1 hlt2
    rw [show decide (cmp3 l[(lo + hi) / 2].1 id < 0)=true by unfold cmp3;rw [if_pos hlt2];rfl,q_if1,q_ck (by omega) (by omega),show (((lo + hi) / 2:Nat):Int) + 1=(((lo + hi) / 2 + 1:Nat):Int) by omega]
    exact bs_loop hs hl m _ hi (by omega) h2 h3 (by omega)
   ·have:¬ (lo + hi) / 2 < cnt l id:=fun q=>hlt2 (hc.2 q)
    rw [show decide (cmp3 l[(lo + hi) / 2].1 id < 0)=false by unfold cmp3;rw [if_neg hlt2];split <;> rfl,q_if0]
    exact bs_loop hs hl m lo _ h1 (by omega) (by omega) (by omega)
  ·have e:lo=cnt l id:=by omega
   rw [lt_f hlt,q_if0]
   have hf:=cnt_found hs (id:=id)
   by_cases hlen:lo < l.length
   ·rw [lt_t hlen,q_if1,q_get (getn hlen),at1_eq (d:=l[lo])]
    simp only [q_bd]
    have:(cmp3 l[lo].1 id == 0)=decide (id ∈ ids l):=by
     have hn:¬ l[lo].1 < id:=fun q=>by have:=(cnt_lt hs lo hlen).1 q;omega
     unfold cmp3
     rw [if_neg hn]
     by_cases hg:l[lo].1 > id
     ·rw [if_pos hg]
      have:¬ id ∈ ids l:=fun q=>by
       obtain ⟨_,q⟩:=hf.2 q
       simp only [<- e] at q;omega
      rw [decide_eq_false this];rfl
     ·rw [if_neg hg]
      have:id ∈ ids l:=hf.1 ⟨by omega,by simp only [<- e];omega⟩
      rw [decide_eq_true this];rfl
    rw [this,e]
   ·rw [lt_f hlen,q_if0]
    have:¬ id ∈ ids l:=fun q=>by obtain ⟨q,_⟩:=hf.2 q;omega
    rw [decide_eq_false this,e];rfl
theorem at_eq {N:Nat} {l:List De} (hs:Srt l) (hl:l.length <= 4611686018427387904) (hN:l.length < N) {id:Int}:G_lineage_at N l id=some (((cnt l id:Nat):Int),decide (id ∈ ids l)):=by
 unfold G_lineage_at G_slices_BinarySearchFunc_Derived_Derived
 have:=bs_loop (N:=N) hs hl (id:=id) N 0 l.length (Nat.zero_le _) (cnt_le _ _) (Nat.le_refl _) (by omega)
 rw [show ((0:Nat):Int)=0 from rfl] at this
 rw [this];rfl
theorem known_loop {N:Nat} {l:List De} (hs:Srt l) (hl:l.length <= 4611686018427387904) (hN:l.length < N) {is:List Int} (hi:is.length <= 4611686018427387904):∀ (m k:Nat),k <= is.length->is.length - k < m ->
  L_lineage_known_0 N m l is ((is.length:Nat):Int) (k:Int)=some ((is.drop k).all fun i=>decide (i ∈ ids l))
 | 0,_,_,h=>absurd h (Nat.not_lt_zero _)
 | m + 1,k,h1,h=>by
  show B_lineage_known_0 N (L_lineage_known_0 N m) l is _ _=_
  unfold B_lineage_known_0
  by_cases hlt:k < is.length
  ·rw [lt_t hlt,q_if1,q_get (getn hlt),at_eq hs hl hN,List.drop_eq_getElem_cons hlt,List.all_cons]
   simp only [q_bd]
   cases decide (is[k] ∈ ids l) with
   | false=>rfl
   | true =>
    show if? (!true) _ _=_
    rw [q_ifn,q_if1,q_ck (by omega) (by omega),show ((k:Int) + 1)=((k + 1:Nat):Int) by omega,known_loop hs hl hN hi m (k + 1) (by omega) (by omega)]
    rfl
  ·rw [lt_f hlt,q_if0,List.drop_of_length_le (by omega)];rfl
theorem known_eq {N:Nat} {l:List De} (hs:Srt l) (hl:l.length <= 4611686018427387904) (hN:l.length < N) {is:List Int} (hi:is.length <= 4611686018427387904) (hN2:is.length < N):G_lineage_known N l is=some (is.all fun i=>decide (i ∈ ids l)):=by
 unfold G_lineage_known
 have:=known_loop hs hl hN hi N 0 (Nat.zero_le _) (by omega)
 rw [List.drop_zero] at this
 exact this
def okD (pre:List De) (d:De):Bool:=(match pre.getLast? with | none=>true | some e=>!decide (d.1 <= e.1)) && rightB d && d.2.2.all fun i=>decide (i ∈ ids pre)
def okL:List De->List De->Bool
 | _,[]=>true
 | pre,d :: r=>okD pre d && okL (pre ++ [d]) r
structure Few (N:Nat) (l:List De):Prop where
 len:l.length < N
 big:l.length <= 4611686018427387904
 rd:∀ d ∈ l,d.2.1.length < N/\d.2.1.length <= 4611686018427387904
 of:∀ d ∈ l,d.2.2.length < N/\d.2.2.length <= 4611686018427387904
theorem srt_push {l:List De} {d:De} (hs:Srt l) (h:∀ e,l.getLast?=some e->e.1 < d.1):Srt (l ++ [d]):=by
 show (ids (l ++ [d])).Pairwise _
 rw [ids,List.map_append,List.pairwise_append]
 refine ⟨hs,by simp,fun a ha b hb=>?_⟩
 rw [List.map_singleton,List.mem_singleton] at hb
 subst hb
 obtain ⟨x,hx,rfl⟩:=List.mem_map.1 ha
 rcases List.eq_nil_or_concat l with rfl | ⟨l',e,rfl⟩
 ·cases hx
 ·rw [List.concat_eq_append] at *
  have he:=h e (by simp)
  rcases List.mem_append.1 hx with hx | hx
  ·have:(ids (l' ++ [e])).Pairwise (· < ·):=hs
   rw [ids,List.map_append,List.pairwise_append] at this
   exact Int.lt_trans (this.2.2 x.1 (List.mem_map.2 ⟨x,hx,rfl⟩) e.1 (by simp)) he
  ·rw [List.mem_singleton.1 hx];exact he
theorem check_loop {N:Nat} {l:List De} (hf:Few N l):∀ (m k:Nat),k <= l.length->l.length - k < m->Srt (l.take k) ->
  L_lineage_Check_0 N m l l ((l.length:Nat):Int) (k:Int)=some (if okL (l.take k) (l.drop k)=true then 0 else 1)
 | 0,_,_,h,_=>absurd h (Nat.not_lt_zero _)
 | m + 1,k,h1,h,hs=>by
  show B_lineage_Check_0 N (L_lineage_Check_0 N m) l l _ _=_
  unfold B_lineage_Check_0
  have hbig:=hf.big
  have hlen:=hf.len
  by_cases hlt:k < l.length
  ·rw [lt_t hlt,q_if1,q_get (getn hlt),List.drop_eq_getElem_cons hlt]
   have hm:=List.getElem_mem hlt
   have hd:=hf.rd _ hm
   have ho:=hf.of _ hm
   have htk:(l.take k).length=k:=by rw [List.length_take];omega
   have hr:G_lineage_right N (l[k].1,(l[k].2.1,l[k].2.2))=some (rightB l[k]):=right_eq (d:=l[k]) hd.2 ho.2 hd.1 ho.1
   have hk:G_lineage_known N (List.take ((k:Int).toNat - 0) (List.drop 0 l)) l[k].2.2=some (l[k].2.2.all fun i=>decide (i ∈ ids (l.take k))):=by
    rw [show (k:Int).toNat - 0=k by omega,List.drop_zero]
    exact known_eq hs (by omega) (by omega) ho.2 ho.1
   have rest:(bd? (G_lineage_right N (l[k].1,(l[k].2.1,l[k].2.2))) fun v9=>if? (!v9) (some (l,l,((l.length:Nat):Int),(k:Int),true)) (gd? (0 <= (k:Int)) (gd? (0 <= (k:Int).toNat) (gd? ((k:Int).toNat <= l.length) (bd? (G_lineage_known N (List.take ((k:Int).toNat - 0) (List.drop 0 l)) l[k].2.2) fun v10=>some (l,l,((l.length:Nat):Int),(k:Int),!v10)))))) =
     some (l,l,((l.length:Nat):Int),(k:Int),!(rightB l[k] && l[k].2.2.all fun i=>decide (i ∈ ids (l.take k)))):=by
    rw [hr,hk]
    simp only [q_bd]
    cases rightB l[k] with
    | false=>rfl
    | true=>rw [q_ifn,q_if1,q_gdT (by omega),q_gdT (by omega),q_gdT (by omega),Bool.true_and]
   have main:(if? (decide ((k:Int) > 0)) (ck .i64 ((k:Int) - 1) (get? l ((k:Int) - 1) fun x8=>if? (decide (l[k].1 <= x8.1)) (some (l,l,((l.length:Nat):Int),(k:Int),true)) (bd? (G_lineage_right N (l[k].1,(l[k].2.1,l[k].2.2))) fun v9=>if? (!v9) (some (l,l,((l.length:Nat):Int),(k:Int),true)) (gd? (0 <= (k:Int)) (gd? (0 <= (k:Int).toNat) (gd? ((k:Int).toNat <= l.length) (bd? (G_lineage_known N (List.take ((k:Int).toNat - 0) (List.drop 0 l)) l[k].2.2) fun v10=>some (l,l,((l.length:Nat):Int),(k:Int),!v10))))))))
      (bd? (G_lineage_right N (l[k].1,(l[k].2.1,l[k].2.2))) fun v9=>if? (!v9) (some (l,l,((l.length:Nat):Int),(k:Int),true)) (gd? (0 <= (k:Int)) (gd? (0 <= (k:Int).toNat) (gd? ((k:Int).toNat <= l.length) (bd? (G_lineage_known N (List.take ((k:Int).toNat - 0) (List.drop 0 l)) l[k].2.2) fun v10=>some (l,l,((l.length:Nat):Int),(k:Int),!v10))))))) =
     some (l,l,((l.length:Nat):Int),(k:Int),!okD (l.take k) l[k]):=by
    rw [rest]
    unfold okD
    by_cases hk0:k=0
    ·subst hk0;simp
    ·have e1:((k:Int) - 1).toNat=k - 1:=by omega
     have e2:(l.take k).getLast?=some l[k - 1]:=by
      rw [List.getLast?_eq_getElem?,htk,List.getElem?_take_of_lt (by omega),getn (by omega)]
     rw [decide_eq_true (show (k:Int) > 0 by omega),q_if1,q_ck (by omega) (by omega),q_geti (by omega) (by rw [e1];exact getn (by omega)),e2]
     dsimp only
     by_cases hc:l[k].1 <= l[k - 1].1
     ·rw [decide_eq_true hc];rfl
     ·rw [decide_eq_false hc];simp [Bool.and_assoc]
   rw [main]
   simp only [q_bd]
   rw [okL]
   cases hok:okD (l.take k) l[k] with
   | false=>rfl
   | true =>
    show if? (!true) _ _=_
    rw [q_ifn,q_if1,q_ck (by omega) (by omega),show ((k:Int) + 1)=((k + 1:Nat):Int) by omega,Bool.true_and]
    have e3:l.take k ++ [l[k]]=l.take (k + 1):=by rw [List.take_succ_eq_append_getElem hlt]
    rw [e3]
    refine check_loop hf m (k + 1) (by omega) (by omega) ?_
    rw [<- e3]
    refine srt_push hs fun e he=>?_
    unfold okD at hok
    rw [he] at hok
    simp only [Bool.and_eq_true,Bool.not_eq_true',decide_eq_false_iff_not] at hok
    omega
  ·rw [lt_f hlt,q_if0,List.drop_of_length_le (by omega)];rfl
def chk (l:List De):Int:=if l.length > 2000 then 2 else if okL [] l=true then 0 else 1
theorem check_eq {N:Nat} {l:List De} (hf:Few N l):G_lineage_Check N l=some (chk l):=by
 unfold G_lineage_Check chk
 by_cases h:l.length > 2000
 ·rw [if_pos h,decide_eq_true (show ((l.length:Nat):Int) > 2000 by omega)];rfl
 ·rw [if_neg h,decide_eq_false (show ¬ ((l.length:Nat):Int) > 2000 by omega),q_if0]
  have:=check_loop hf N 0 (Nat.zero_le _) (by have:=hf.len;omega) (by simp [Srt])
  simpa using this
def tR (c:Ch) (x:Rd):Bool:=(x.1 == c.2.1) && ((bits .and .i64 (x.2.1 / (2 ^ c.1.toNat)) 1) == 1) && decide ((Max.max x.2.2.1 c.2.2.1) < (Min.min x.2.2.2 c.2.2.2))
def tch (d:De) (c:Ch):Bool:=!decide (c.1 < 0) && !decide (c.1 > 3) && d.2.1.any (tR c)
theorem touches1_eq {N:Nat} {x:Rd} {c:Ch} (h0:0 <= c.1) (h3:c.1 <= 3):G_lineage_Touches_1 N x c.1 c.2.1 c.2.2.1 c.2.2.2=some (tR c x,c):=by
 have h64:((IntKind.bits .i64:Nat):Int)=64:=rfl
 unfold G_lineage_Touches_1 tR
 cases hg:x.1 == c.2.1 with
 | false=>rfl
 | true =>
  rw [q_if1,q_gdT h0,q_gdT (by rw [h64];omega)]
  cases hb:(bits .and .i64 (x.2.1 / (2 ^ c.1.toNat)) 1) == 1 with
  | false=>rfl
  | true=>rfl
theorem idxR_loop {N:Nat} {rs:List Rd} {c:Ch} (h0:0 <= c.1) (h3:c.1 <= 3) (hl:rs.length <= 4611686018427387904):∀ (m k:Nat),k <= rs.length->rs.length - k < m ->
  ∃ r:Int,L_slices_IndexFunc_Read_Read_0 N m rs ((rs.length:Nat):Int) (k:Int) c.1 c.2.1 c.2.2.1 c.2.2.2=some (r,c)/\decide (r ≥ 0)=(rs.drop k).any (tR c)
 | 0,_,_,h=>absurd h (Nat.not_lt_zero _)
 | m + 1,k,h1,h=>by
  show ∃ r:Int,B_slices_IndexFunc_Read_Read_0 N (L_slices_IndexFunc_Read_Read_0 N m) rs _ _ _ _ _ _=_/\_
  unfold B_slices_IndexFunc_Read_Read_0
  by_cases hlt:k < rs.length
  ·rw [lt_t hlt,q_if1,q_get (getn hlt),List.drop_eq_getElem_cons hlt,List.any_cons,touches1_eq (x:=rs[k]) h0 h3]
   simp only [q_bd]
   cases hb:tR c rs[k] with
   | true=>exact ⟨k,rfl,by simp⟩
   | false =>
    obtain ⟨r,e1,e2⟩:=idxR_loop (N:=N) h0 h3 hl m (k + 1) (by omega) (by omega)
    exact ⟨r,by rw [q_if0,q_ck (by omega) (by omega),show ((k:Int) + 1)=((k + 1:Nat):Int) by omega];exact e1,by rw [e2];rfl⟩
  ·exact ⟨-1,by rw [lt_f hlt,q_if0],by rw [List.drop_of_length_le (by omega)];rfl⟩
theorem touches_eq {N:Nat} {d:De} {c:Ch} (hl:d.2.1.length <= 4611686018427387904) (hN:d.2.1.length < N):G_lineage_Touches N d c=some (tch d c):=by
 unfold G_lineage_Touches tch
 by_cases h0:c.1 < 0
 ·rw [decide_eq_true h0];rfl
 ·rw [decide_eq_false h0,q_if0]
  simp only [q_bd]
  by_cases h3:c.1 > 3
  ·rw [decide_eq_true h3];rfl
  ·rw [decide_eq_false h3,q_if0]
   obtain ⟨r,e1,e2⟩:=idxR_loop (N:=N) (c:=c) (by omega) (by omega) hl N 0 (Nat.zero_le _) (by omega)
   unfold G_slices_ContainsFunc_Read_Read G_slices_IndexFunc_Read_Read
   have e1:L_slices_IndexFunc_Read_Read_0 N N d.2.1 ((d.2.1.length:Nat):Int) 0 c.1 c.2.1 c.2.2.1 c.2.2.2=some (r,c):=e1
   rw [e1]
   show some (decide (r ≥ 0))=_
   rw [e2];rfl
theorem idxC_loop {N:Nat} {d:De} {cs:List Ch} (hd:d.2.1.length <= 4611686018427387904) (hN:d.2.1.length < N) (hl:cs.length <= 4611686018427387904):∀ (m k:Nat),k <= cs.length->cs.length - k < m ->
  ∃ r:Int,L_slices_IndexFunc_Change_Change_0 N m cs ((cs.length:Nat):Int) (k:Int) d.1 d.2.1 d.2.2=some (r,d)/\decide (r ≥ 0)=(cs.drop k).any (tch d)
 | 0,_,_,h=>absurd h (Nat.not_lt_zero _)
 | m + 1,k,h1,h=>by
  show ∃ r:Int,B_slices_IndexFunc_Change_Change_0 N (L_slices_IndexFunc_Change_Change_0 N m) cs _ _ _ _ _=_/\_
  unfold B_slices_IndexFunc_Change_Change_0
  by_cases hlt:k < cs.length
  ·have ht:G_lineage_touched_1_1 N (cs[k].1,(cs[k].2.1,(cs[k].2.2.1,cs[k].2.2.2))) d.1 d.2.1 d.2.2=some (tch d cs[k],d):=by
    unfold G_lineage_touched_1_1
    have:=touches_eq (N:=N) (d:=d) (c:=cs[k]) hd hN
    have this:G_lineage_Touches N (d.1,(d.2.1,d.2.2)) (cs[k].1,(cs[k].2.1,(cs[k].2.2.1,cs[k].2.2.2)))=some (tch d cs[k]):=this
    rw [this];rfl
   rw [lt_t hlt,q_if1,q_get (getn hlt),List.drop_eq_getElem_cons hlt,List.any_cons,ht]
   simp only [q_bd]
   cases hb:tch d cs[k] with
   | true=>exact ⟨k,rfl,by simp⟩
   | false =>
    obtain ⟨r,e1,e2⟩:=idxC_loop (N:=N) hd hN hl m (k + 1) (by omega) (by omega)
    exact ⟨r,by rw [q_if0,q_ck (by omega) (by omega),show ((k:Int) + 1)=((k + 1:Nat):Int) by omega];exact e1,by rw [e2];rfl⟩
  ·exact ⟨-1,by rw [lt_f hlt,q_if0],by rw [List.drop_of_length_le (by omega)];rfl⟩
theorem cfC_eq {N:Nat} {d:De} {cs:List Ch} (hd:d.2.1.length <= 4611686018427387904) (hN:d.2.1.length < N) (hl:cs.length <= 4611686018427387904) (hN2:cs.length < N):G_slices_ContainsFunc_Change_Change N cs d.1 d.2.1 d.2.2=some (cs.any (tch d),d):=by
 unfold G_slices_ContainsFunc_Change_Change G_slices_IndexFunc_Change_Change
 obtain ⟨r,e1,e2⟩:=idxC_loop (N:=N) (d:=d) hd hN hl N 0 (Nat.zero_le _) (by omega)
 have e1:L_slices_IndexFunc_Change_Change_0 N N cs ((cs.length:Nat):Int) 0 d.1 d.2.1 d.2.2=some (r,d):=e1
 rw [e1]
 show some (decide (r ≥ 0),d)=_
 rw [e2];rfl
abbrev MB:=List (Int × Bool)
def tids (cs:List Ch) (l:List De):List Int:=(l.filter fun d=>cs.any (tch d)).map (·.1)
theorem begin_loop {N:Nat} {l:List De} {cs:List Ch} (hf:Few N l) (hl:l.length <= 17592186044415) (hc:cs.length <= 4611686018427387904) (hN2:cs.length < N) {a9 a11 a12:Int}:∀ (m k:Nat) (out:List Int),k <= l.length->l.length - k < m->out.length <= k ->
  L_lineage_Begin_0 N m l ((l.length:Nat):Int) (k:Int) a9 cs a11 a12 [] out=some (a11,(a12,([],out ++ tids cs (l.drop k))))
 | 0,_,_,_,h,_=>absurd h (Nat.not_lt_zero _)
 | m + 1,k,out,h1,h,h2=>by
  show B_lineage_Begin_0 N (L_lineage_Begin_0 N m) l _ _ _ cs _ _ _ _=_
  unfold B_lineage_Begin_0
  by_cases hlt:k < l.length
  ·have hm:=List.getElem_mem hlt
   have hd:=hf.rd _ hm
   rw [lt_t hlt,q_if1,q_get (getn hlt),List.drop_eq_getElem_cons hlt,cfC_eq (d:=l[k]) hd.2 hd.1 hc hN2]
   simp only [q_bd]
   have e0:tids cs (l[k] :: l.drop (k + 1))=(if cs.any (tch l[k])=true then [l[k].1] else []) ++ tids cs (l.drop (k + 1)):=by
    unfold tids
    rw [List.filter_cons]
    split <;> simp
   rw [e0]
   cases hb:cs.any (tch l[k]) with
   | true =>
    simp only [q_if1,q_gl,if_true]
    rw [q_gdT (by simp;omega)]
    simp only [q_bd,q_ifn,q_if1,q_gl]
    rw [q_ck (by omega) (by omega),show ((k:Int) + 1)=((k + 1:Nat):Int) by omega,begin_loop hf hl hc hN2 m (k + 1) (out ++ [l[k].1]) (by omega) (by omega) (by simp;omega)]
    simp
   | false =>
    simp only [q_if0,q_gl,Bool.false_eq_true,if_false]
    simp only [q_bd,q_if0,q_gl]
    rw [q_ck (by omega) (by omega),show ((k:Int) + 1)=((k + 1:Nat):Int) by omega,begin_loop hf hl hc hN2 m (k + 1) out (by omega) (by omega) (by omega)]
    simp
  ·rw [lt_f hlt,q_if0,List.drop_of_length_le (by omega),q_gl,q_gl]
   simp [tids]
theorem begin_eq {N:Nat} {l:List De} {cs:List Ch} (hf:Few N l) (hl:l.length <= 17592186044415) (hc:cs.length <= 4611686018427387904) (hN2:cs.length < N):G_lineage_Begin N l cs=some (if chk l=0 then (tids cs l,(0,0)) else ([],(0,chk l))):=by
 unfold G_lineage_Begin
 rw [check_eq hf]
 simp only [q_bd]
 by_cases h:chk l=0
 ·rw [h]
  simp only [bne_self_eq_false,q_if0,if_true]
  unfold G_lineage_touched
  simp only [q_bd]
  have:=begin_loop (N:=N) (a9:=0) (a11:=0) (a12:=0) hf hl hc hN2 N 0 [] (Nat.zero_le _) (by have:=hf.len;omega) (Nat.le_refl _)
  have this:L_lineage_Begin_0 N N l ((l.length:Nat):Int) 0 0 cs 0 0 [] []=some (0,(0,([],tids cs l))):=by simpa using this
  rw [this]
  simp
 ·rw [if_neg h,show (chk l != 0)=true by simpa using h];rfl
theorem asc_ext:∀ {l l':List Int},l.Pairwise (· < ·)->l'.Pairwise (· < ·)->(∀ x,x ∈ l ↔ x ∈ l')->l=l'
 | [],[],_,_,_=>rfl
 | [],b :: r,_,_,h=>absurd ((h b).2 List.mem_cons_self) (by simp)
 | a :: r,[],_,_,h=>absurd ((h a).1 List.mem_cons_self) (by simp)
 | a :: r,b :: r',h1,h2,h=>by
  have ab:a=b:=by
   rcases List.mem_cons.1 ((h a).1 List.mem_cons_self) with e | e
   ·exact e
   ·rcases List.mem_cons.1 ((h b).2 List.mem_cons_self) with e' | e'
    ·exact e'.symm
    ·have:=List.rel_of_pairwise_cons h2 e
     have:=List.rel_of_pairwise_cons h1 e'
     omega
  subst ab
  congr 1
  refine asc_ext h1.tail h2.tail fun x=>⟨fun hx=>?_,fun hx=>?_⟩
  ·have:=List.rel_of_pairwise_cons h1 hx
   rcases List.mem_cons.1 ((h x).1 (List.mem_cons_of_mem _ hx)) with e | e
   ·omega
   ·exact e
  ·have:=List.rel_of_pairwise_cons h2 hx
   rcases List.mem_cons.1 ((h x).2 (List.mem_cons_of_mem _ hx)) with e | e
   ·omega
   ·exact e
def cntI:List Int->Int->Nat
 | [],_=>0
 | a :: r,x=>if a < x then cntI r x + 1 else 0
theorem cntI_ids:∀ (l:List De) (x:Int),cnt l x=cntI (ids l) x
 | [],_=>rfl
 | d :: r,x=>by
  show (if d.1 < x then cnt r x + 1 else 0)=if d.1 < x then cntI (ids r) x + 1 else 0
  rw [cntI_ids r x]
def asDe (l:List Int):List De:=l.map fun x=>(x,[],[])
theorem ids_asDe:∀ l:List Int,ids (asDe l)=l
 | []=>rfl
 | a :: l=>by show a :: ids (asDe l)=_;rw [ids_asDe l]
theorem asDe_len (l:List Int):(asDe l).length=l.length:=by simp [asDe]
theorem cntI_le (l:List Int) (x:Int):cntI l x <= l.length:=by
 have:=cnt_le (asDe l) x
 rw [cntI_ids,ids_asDe,asDe_len] at this;exact this
theorem cntI_lt {l:List Int} (hs:l.Pairwise (· < ·)) {x:Int} {i:Nat} (h:i < l.length):l[i] < x ↔ i < cntI l x:=by
 have:=cnt_lt (l:=asDe l) (id:=x) (by show (ids (asDe l)).Pairwise _;rw [ids_asDe];exact hs) i (by rw [asDe_len];exact h)
 rw [cntI_ids,ids_asDe] at this
 rw [<- this]
 simp [asDe]
theorem cntI_found {l:List Int} (hs:l.Pairwise (· < ·)) {x:Int}:(∃ h:cntI l x < l.length,l[cntI l x]=x) ↔ x ∈ l:=by
 have:=cnt_found (l:=asDe l) (id:=x) (by show (ids (asDe l)).Pairwise _;rw [ids_asDe];exact hs)
 rw [ids_asDe] at this
 rw [<- this]
 constructor
 ·rintro ⟨h,e⟩
  refine ⟨by rw [cntI_ids,ids_asDe,asDe_len];exact h,?_⟩
  have e1:cnt (asDe l) x=cntI l x:=by rw [cntI_ids,ids_asDe]
  simp only [e1]
  simpa [asDe] using e
 ·rintro ⟨h,e⟩
  have e1:cnt (asDe l) x=cntI l x:=by rw [cntI_ids,ids_asDe]
  simp only [e1] at e
  refine ⟨by rw [e1,asDe_len] at h;exact h,?_⟩
  simpa [asDe] using e
theorem filter_gt:∀ {l:List Int},l.Pairwise (· < ·)->∀ p:Int,l.filter (fun x=>decide (p < x))=l.drop (cntI l p + if p ∈ l then 1 else 0)
 | [],_,p=>rfl
 | a :: r,hs,p=>by
  have ih:r.filter (fun x=>decide (p < x))=r.drop (cntI r p + if p ∈ r then 1 else 0):=filter_gt (l:=r) (List.Pairwise.of_cons hs) p
  have hr:∀ b ∈ r,a < b:=fun b hb=>List.rel_of_pairwise_cons hs hb
  rw [List.filter_cons]
  unfold cntI
  by_cases h1:a < p
  ·rw [if_neg (by simp;omega),if_pos h1,ih]
   have:(p ∈ a :: r) ↔ p ∈ r:=by
    rw [List.mem_cons]
    exact ⟨fun h=>h.resolve_left (by omega),.inr⟩
   simp only [this]
   rw [show cntI r p + 1 + (if p ∈ r then 1 else 0)=(cntI r p + if p ∈ r then 1 else 0) + 1 by omega,List.drop_succ_cons]
  ·rw [if_neg h1]
   by_cases h2:a=p
   ·subst h2
    rw [if_neg (by simp),if_pos List.mem_cons_self]
    show _=r
    rw [List.filter_eq_self]
    intro b hb
    exact decide_eq_true (hr b hb)
   ·have hp:p ∉ a :: r:=fun h=>by
     rcases List.mem_cons.1 h with e | e
     ·exact h2 e.symm
     ·have:=hr p e;omega
    rw [if_pos (by simp;omega),if_neg hp]
    show a :: _=a :: r
    congr 1
    rw [List.filter_eq_self]
    intro b hb
    have:=hr b hb
    exact decide_eq_true (by omega)
theorem bsI_loop {N:Nat} {l:List Int} (hs:l.Pairwise (· < ·)) (hl:l.length <= 4611686018427387904) {x:Int}:∀ (m lo hi:Nat),lo <= cntI l x->cntI l x <= hi->hi <= l.length->hi - lo < m ->
  L_slices_BinarySearch_int_int_0 N m l x ((l.length:Nat):Int) (lo:Int) (hi:Int)=some (((cntI l x:Nat):Int),decide (x ∈ l))
 | 0,_,_,_,_,_,h=>absurd h (Nat.not_lt_zero _)
 | m + 1,lo,hi,h1,h2,h3,h=>by
  have hless:∀ a b:Int,G_cmp_Less_int N a b=some (decide (a < b)):=fun a b=>by
   unfold G_cmp_Less_int G_cmp_isNaN_int
   rw [show (a != a)=false by simp,show (b != b)=false by simp]
   simp only [q_bd,q_if0]
   try rfl
  show B_slices_BinarySearch_int_int_0 N (L_slices_BinarySearch_int_int_0 N m) l x _ _ _=_
  unfold B_slices_BinarySearch_int_int_0
  by_cases hlt:lo < hi
  ·rw [lt_t hlt,q_if1,q_ck (by omega) (by omega),show (lo:Int) + (hi:Int)=((lo + hi:Nat):Int) by omega,mid_eq (by omega)]
   have hm:(lo + hi) / 2 < l.length:=by omega
   rw [q_get (getn hm),hless]
   simp only [q_bd]
   have hc:=cntI_lt hs (x:=x) hm
   by_cases hlt2:l[(lo + hi) / 2] < x
   ·have:=hc.1 hlt2
    rw [decide_eq_true hlt2,q_if1,q_ck (by omega) (by omega),show (((lo + hi) / 2:Nat):Int) + 1=(((lo + hi) / 2 + 1:Nat):Int) by omega]
    exact bsI_loop hs hl m _ hi (by omega) h2 h3 (by omega)
   ·have:¬ (lo + hi) / 2 < cntI l x:=fun q=>hlt2 (hc.2 q)
    rw [decide_eq_false hlt2,q_if0]
    exact bsI_loop hs hl m lo _ h1 (by omega) (by omega) (by omega)
  ·have e:lo=cntI l x:=by omega
   rw [lt_f hlt,q_if0]
   have hf:=cntI_found hs (x:=x)
   by_cases hlen:lo < l.length
   ·rw [lt_t hlen,q_if1,q_get (getn hlen)]
    by_cases he:l[lo]=x
    ·have:x ∈ l:=hf.1 ⟨by omega,by simp only [<- e];exact he⟩
     rw [show (l[lo] == x)=true by simpa using he,q_if1,decide_eq_true this,<- e];rfl
    ·have:¬ x ∈ l:=fun q=>by
      obtain ⟨_,q⟩:=hf.2 q
      simp only [<- e] at q;exact he q
     rw [show (l[lo] == x)=false by simpa using he,q_if0,q_get (getn hlen)]
     unfold G_slices_isNaN_int
     rw [show (l[lo] != l[lo])=false by simp]
     simp only [q_bd,q_if0]
     rw [decide_eq_false this,e]
   ·rw [lt_f hlen,q_if0]
    have:¬ x ∈ l:=fun q=>by obtain ⟨q,_⟩:=hf.2 q;omega
    rw [decide_eq_false this,e];rfl
theorem bsI_eq {N:Nat} {l:List Int} (hs:l.Pairwise (· < ·)) (hl:l.length <= 4611686018427387904) (hN:l.length < N) {x:Int}:G_slices_BinarySearch_int_int N l x=some (((cntI l x:Nat):Int),decide (x ∈ l)):=by
 unfold G_slices_BinarySearch_int_int
 have:=bsI_loop (N:=N) hs hl (x:=x) N 0 l.length (Nat.zero_le _) (cntI_le _ _) (Nat.le_refl _) (by omega)
 rw [show ((0:Nat):Int)=0 from rfl] at this
 exact this
theorem okL_srt:∀ {r pre:List De},Srt pre->okL pre r=true->Srt (pre ++ r)
 | [],pre,hs,_=>by rw [List.append_nil];exact hs
 | d :: r,pre,hs,h=>by
  rw [okL,Bool.and_eq_true] at h
  have:Srt (pre ++ [d]):=srt_push hs fun e he=>by
   have h1:=h.1
   unfold okD at h1
   rw [he] at h1
   simp only [Bool.and_eq_true,Bool.not_eq_true',decide_eq_false_iff_not] at h1
   omega
  have:=okL_srt this h.2
  rwa [List.append_assoc] at this
theorem chk_ok {l:List De} (h:chk l=0):okL [] l=true:=by
 unfold chk at h
 split at h
 ·cases h
 ·split at h
  ·assumption
  ·cases h
theorem chk_srt {l:List De} (h:chk l=0):Srt l:=okL_srt (pre:=[]) List.Pairwise.nil (chk_ok h)
def nextF (l:List De) (T:List Int) (p:Int):Int × Int :=
 if chk l ≠ 0 then (0,chk l) else if asc T=false\/(T.all fun i=>decide (i ∈ ids l))=false then (0,1) else if p ≠ 0/\p ∉ T then (0,1) else
  match T.drop (cntI T p + if p ∈ T then 1 else 0) with
  | []=>(0,8)
  | x :: _=>(x,0)
theorem next_eq {N:Nat} {l:List De} (hf:Few N l) {T:List Int} {p:Int} (hT:T.length <= 4611686018427387904) (hN:T.length < N):G_lineage_Next N l (T,p)=some (nextF l T p):=by
 unfold G_lineage_Next nextF
 rw [check_eq hf]
 simp only [q_bd]
 by_cases hc:chk l=0
 ·rw [hc]
  simp only [bne_self_eq_false,q_if0,ne_eq,not_true_eq_false,if_false]
  rw [ascends_eq hT hN]
  simp only [q_bd]
  cases ha:asc T with
  | false=>simp
  | true =>
   have hs:=asc_iff.1 ha
   rw [known_eq (chk_srt hc) hf.big hf.len hT hN]
   cases hk:T.all fun i=>decide (i ∈ ids l) with
   | false=>simp [hk]
   | true =>
    simp only [q_bd,q_ifn,q_if1,Bool.not_true,q_if0,bsI_eq hs hT hN,Bool.true_eq_false,or_self,if_false]
    have hle:=cntI_le T p
    have hfd:=cntI_found hs (x:=p)
    by_cases hp:p ∈ T
    ·obtain ⟨hlt,_⟩:=hfd.2 hp
     simp only [hp,decide_true,Bool.not_true,not_true_eq_false,and_false,if_false,if_true,q_if1]
     have e1:(if? (p != 0) (some (((cntI T p:Nat):Int),true,false,T,p)) (some (((cntI T p:Nat):Int),true,false,T,p)))=some (((cntI T p:Nat):Int),true,false,T,p):=by cases p != 0 <;> rfl
     rw [e1]
     simp only [q_bd,q_if0,q_if1]
     rw [q_ck (by omega) (by omega)]
     simp only [q_bd]
     by_cases hend:cntI T p + 1=T.length
     ·rw [show ((((cntI T p:Nat):Int) + 1) == ((T.length:Nat):Int))=true by simp;omega,q_if1,List.drop_of_length_le (by omega)]
     ·rw [show ((((cntI T p:Nat):Int) + 1) == ((T.length:Nat):Int))=false by simp;omega,q_if0,List.drop_eq_getElem_cons (show cntI T p + 1 < T.length by omega),show (((cntI T p:Nat):Int) + 1)=((cntI T p + 1:Nat):Int) by omega,q_get (getn (by omega))]
    ·simp only [hp,decide_false,Bool.not_false,not_false_eq_true,and_true,if_false,Nat.add_zero]
     by_cases h0:p=0
     ·subst h0
      simp only [bne_self_eq_false,q_if0,q_bd,not_true_eq_false,if_false]
      by_cases hend:cntI T 0=T.length
      ·rw [show (((cntI T 0:Nat):Int) == ((T.length:Nat):Int))=true by simp;omega,q_if1,List.drop_of_length_le (by omega)]
      ·rw [show (((cntI T 0:Nat):Int) == ((T.length:Nat):Int))=false by simp;omega,q_if0,List.drop_eq_getElem_cons (show cntI T 0 < T.length by omega),q_get (getn (by omega))]
     ·rw [show (p != 0)=true by simpa using h0]
      simp [h0]
 ·rw [if_pos hc,show (chk l != 0)=true by simpa using hc];rfl
theorem idx_loop {is:List Int} {x:Int} (hl:is.length <= 4611686018427387904):∀ (m k:Nat),k <= is.length->is.length - k < m ->
  ∃ r:Int,L_slices_Index_int_int_0 m is x ((is.length:Nat):Int) (k:Int)=some r/\decide (r ≥ 0)=decide (x ∈ is.drop k)
 | 0,_,_,h=>absurd h (Nat.not_lt_zero _)
 | m + 1,k,h1,h=>by
  show ∃ r:Int,B_slices_Index_int_int_0 (L_slices_Index_int_int_0 m) is x _ _=_/\_
  unfold B_slices_Index_int_int_0
  by_cases hlt:k < is.length
  ·rw [lt_t hlt,q_if1,q_get (getn hlt),List.drop_eq_getElem_cons hlt]
   by_cases he:x=is[k]
   ·exact ⟨k,by rw [show (x == is[k])=true by simpa using he,q_if1],by rw [decide_eq_true (show (k:Int) ≥ 0 by omega),decide_eq_true (show x ∈ is[k] :: is.drop (k + 1) by rw [<- he];exact List.mem_cons_self)]⟩
   ·obtain ⟨r,e1,e2⟩:=idx_loop (x:=x) hl m (k + 1) (by omega) (by omega)
    refine ⟨r,by rw [show (x == is[k])=false by simpa using he,q_if0,q_ck (by omega) (by omega),show ((k:Int) + 1)=((k + 1:Nat):Int) by omega];exact e1,?_⟩
    rw [e2]
    congr 1
    rw [List.mem_cons]
    simp [he]
  ·exact ⟨-1,by rw [lt_f hlt,q_if0],by rw [List.drop_of_length_le (by omega)];simp⟩
theorem contains_eq {N:Nat} {is:List Int} {x:Int} (hl:is.length <= 4611686018427387904) (hN:is.length < N):G_slices_Contains_int_int N is x=some (decide (x ∈ is)):=by
 unfold G_slices_Contains_int_int G_slices_Index_int_int
 obtain ⟨r,e1,e2⟩:=idx_loop (x:=x) hl N 0 (Nat.zero_le _) (by omega)
 have e1:L_slices_Index_int_int_0 N is x ((is.length:Nat):Int) 0=some r:=e1
 rw [e1]
 show some (decide (r ≥ 0))=_
 rw [e2,List.drop_zero]
theorem cloneI_eq {N:Nat} {l:List Int} (hl:l.length <= 17592186044415):G_slices_Clone_int_int N l=some l:=by
 unfold G_slices_Clone_int_int
 rw [q_gdT (show l.length * 8 <= 140737488355328 by omega),q_gl]
 cases l with
 | nil=>simp
 | cons a r=>simp
theorem compactUpTo_len {d:Array Int}:∀ m,(Go.Lib.compactUpTo d m).length <= m
 | 0=>by simp [Go.Lib.compactUpTo]
 | m + 1=>by
  rw [Go.Lib.compactUpTo_succ,List.length_append]
  have:=compactUpTo_len (d:=d) m
  split <;> simp <;> omega
theorem compact_spec {zs:List Int} (hs:zs.Pairwise (· <= ·)):(Go.Lib.compact zs).Pairwise (· < ·)/\∀ x,x ∈ Go.Lib.compact zs ↔ x ∈ zs:=by
 have get:∀ m,m < zs.length->zs.toArray[m]! = zs[m]!:=fun m h=>by simp
 have main:∀ m,m <= zs.length->(Go.Lib.compactUpTo zs.toArray m).Pairwise (· < ·)/\(∀ x,x ∈ Go.Lib.compactUpTo zs.toArray m ↔ x ∈ zs.take m):=by
  intro m
  induction m with
  | zero=>intro _;simp [Go.Lib.compactUpTo]
  | succ m ih =>
   intro hm
   obtain ⟨i1,i2⟩:=ih (by omega)
   rw [Go.Lib.compactUpTo_succ]
   have e1:zs.take (m + 1)=zs.take m ++ [zs[m]]:=List.take_succ_eq_append_getElem (by omega)
   have e2:zs.toArray[m]! = zs[m]:=by simp [show m < zs.length by omega]
   have hle:∀ x ∈ zs.take m,x <= zs[m]:=fun x hx=>by
    obtain ⟨j,hj,rfl⟩:=List.getElem_of_mem hx
    rw [List.length_take] at hj
    rw [List.getElem_take]
    exact List.pairwise_iff_getElem.1 hs j m (by omega) (by omega) (by omega)
   by_cases hk:Go.Lib.keeps zs.toArray m=true
   ·rw [if_pos hk,e2,e1]
    have hlt:∀ x ∈ zs.take m,x < zs[m]:=fun x hx=>by
     have h1:=hle x hx
     rcases Nat.eq_zero_or_pos m with h0 | h0
     ·subst h0;simp at hx
     ·have hne:zs[m - 1] ≠ zs[m]:=by
       have hk2:=hk
       unfold Go.Lib.keeps at hk2
       simp at hk2
       rcases hk2 with h | h
       ·omega
       ·have e3:m - 1 < zs.length:=by omega
        have e4:m < zs.length:=by omega
        simpa [e3,e4,eq_comm] using h
      obtain ⟨j,hj,rfl⟩:=List.getElem_of_mem hx
      rw [List.length_take] at hj
      rw [List.getElem_take] at h1 |-
      have h2:zs[j] <= zs[m - 1]:=by
       rcases Nat.lt_or_ge j (m - 1) with q | q
       ·exact List.pairwise_iff_getElem.1 hs j (m - 1) (by omega) (by omega) q
       ·have:j=m - 1:=by omega
        subst this;exact Int.le_refl _
      have h3:zs[m - 1] <= zs[m]:=List.pairwise_iff_getElem.1 hs (m - 1) m (by omega) (by omega) (by omega)
      omega
    refine ⟨?_,fun x=>?_⟩
    ·rw [List.pairwise_append]
     refine ⟨i1,by simp,fun a ha b hb=>?_⟩
     rw [List.mem_singleton.1 hb]
     exact hlt a ((i2 a).1 ha)
    ·rw [List.mem_append,List.mem_append,i2]
   ·rw [if_neg hk,List.append_nil]
    refine ⟨i1,fun x=>?_⟩
    rw [i2,e1,List.mem_append,List.mem_singleton]
    constructor
    ·exact .inl
    ·rintro (h | rfl)
     ·exact h
     ·unfold Go.Lib.keeps at hk
      simp at hk
      obtain ⟨h0,hk⟩:=hk
      have e3:m - 1 < zs.length:=by omega
      have e4:m < zs.length:=by omega
      have:zs[m]=zs[m - 1]:=by simpa [e3,e4] using hk
      rw [this]
      exact List.mem_iff_getElem.2 ⟨m - 1,by rw [List.length_take];omega,by rw [List.getElem_take]⟩
 obtain ⟨h1,h2⟩:=main zs.length (Nat.le_refl _)
 exact ⟨h1,fun x=>by have:=h2 x;rw [List.take_length] at this;exact this⟩
def onIt (id:Int) (l:List De):List Int:=(l.filter fun d=>decide (id ∈ d.2.2)).map (·.1)
theorem onIt_len (id:Int) (l:List De):(onIt id l).length <= l.length:=by
 unfold onIt
 rw [List.length_map]
 exact List.length_filter_le _ _
theorem done_loop {N:Nat} {l:List De} {id a11 a12:Int} (hf:Few N l) (hl:l.length <= 8796093022207):∀ (m k:Nat) (out:List Int),k <= l.length->l.length - k < m->out.length <= 8796093022207 + k ->
  L_lineage_Done_0 N m id l ((l.length:Nat):Int) (k:Int) a11 a12 [] out=some (Go.Lib.compact (srt (out ++ onIt id (l.drop k))),(a12,0))
 | 0,_,_,_,h,_=>absurd h (Nat.not_lt_zero _)
 | m + 1,k,out,h1,h,h2=>by
  show B_lineage_Done_0 N (L_lineage_Done_0 N m) id l _ _ _ _ _ _=_
  unfold B_lineage_Done_0
  by_cases hlt:k < l.length
  ·have hm:=List.getElem_mem hlt
   have ho:=hf.of _ hm
   rw [lt_t hlt,q_if1,q_get (getn hlt),List.drop_eq_getElem_cons hlt,contains_eq ho.2 ho.1]
   simp only [q_bd]
   have e0:onIt id (l[k] :: l.drop (k + 1))=(if id ∈ l[k].2.2 then [l[k].1] else []) ++ onIt id (l.drop (k + 1)):=by
    unfold onIt
    rw [List.filter_cons]
    by_cases hi:id ∈ l[k].2.2
    ·rw [if_pos (decide_eq_true hi),if_pos hi];rfl
    ·rw [if_neg (by simpa using hi),if_neg hi];rfl
   rw [e0]
   by_cases hi:id ∈ l[k].2.2
   ·rw [decide_eq_true hi,if_pos hi]
    simp only [q_if1,q_gl]
    rw [q_gdT (by simp;omega)]
    simp only [q_bd,q_gl]
    rw [q_ck (by omega) (by omega),show ((k:Int) + 1)=((k + 1:Nat):Int) by omega,done_loop hf hl m (k + 1) (out ++ [l[k].1]) (by omega) (by omega) (by simp;omega)]
    simp
   ·rw [decide_eq_false hi,if_neg hi]
    simp only [q_if0,q_gl,q_bd]
    rw [q_ck (by omega) (by omega),show ((k:Int) + 1)=((k + 1:Nat):Int) by omega,done_loop hf hl m (k + 1) out (by omega) (by omega) (by omega)]
    simp
  ·rw [lt_f hlt,q_if0,List.drop_of_length_le (by omega),q_gl]
   have hp:=srt_perm out
   have e1:G_slices_Sort_int_int N out=some (srt out):=by
    unfold G_slices_Sort_int_int
    rw [if_pos (by omega)]
   have e2:G_slices_Compact_int_int N (srt out)=some (Go.Lib.compact (srt out)):=by
    unfold G_slices_Compact_int_int
    rw [if_pos (by rw [hp.length_eq];omega)]
   rw [e1]
   simp only [q_bd]
   rw [q_glT hp.length_eq.symm,e2]
   simp only [q_bd,q_gl]
   simp [onIt]
def doneF (l:List De) (T:List Int) (p:Int) (ch:Bool):List Int × Int × Int :=
 let q:=nextF l T p
 if q.2 ≠ 0 then ([],(0,q.2)) else if ch=true then (Go.Lib.compact (srt (T ++ onIt q.1 l)),(q.1,0)) else (T,(q.1,0))
theorem done_eq {N:Nat} {l:List De} (hf:Few N l) (hl:l.length <= 8796093022207) {T:List Int} {p:Int} {ch:Bool} (hT:T.length <= 8796093022207) (hN:T.length < N):G_lineage_Done N l (T,p) ch=some (doneF l T p ch):=by
 unfold G_lineage_Done doneF
 have:=next_eq (N:=N) hf (T:=T) (p:=p) (by omega) hN
 simp only
 rw [this]
 simp only [q_bd]
 generalize nextF l T p=q
 by_cases h:q.2=0
 ·rw [show (q.2 != 0)=false by simpa using h,q_if0,if_neg (fun e=>e h),cloneI_eq (by omega)]
  simp only [q_bd,q_gl]
  cases ch with
  | false=>rfl
  | true =>
   rw [q_ifn,q_if1]
   have:=done_loop (id:=q.1) (a11:=0) (a12:=q.1) hf hl N 0 T (Nat.zero_le _) (by have:=hf.len;omega) (by omega)
   rw [List.drop_zero] at this
   exact this
 ·rw [show (q.2 != 0)=true by simpa using h,if_pos h];rfl
def sel (q:De->Bool) (l:List De):List Int:=ids (l.filter q)
theorem sel_srt {q:De->Bool} {l:List De} (hs:Srt l):(sel q l).Pairwise (· < ·):=List.Pairwise.sublist (List.Sublist.map _ List.filter_sublist) hs
theorem mem_sel {q:De->Bool} {l:List De} {x:Int}:x ∈ sel q l ↔ ∃ d ∈ l,q d=true/\d.1=x:=by
 unfold sel
 rw [List.mem_map]
 constructor
 ·rintro ⟨d,hd,rfl⟩
  obtain ⟨h1,h2⟩:=List.mem_filter.1 hd
  exact ⟨d,h1,h2,rfl⟩
 ·rintro ⟨d,h1,h2,rfl⟩
  exact ⟨d,List.mem_filter.2 ⟨h1,h2⟩,rfl⟩
def smallD (d:De):Prop:=d.2.2.length <= 20/\d.2.1.length <= 42
theorem few_loop {l:List De} (hl:l.length <= 4611686018427387904):∀ (m k:Nat),k <= l.length->l.length - k < m->∃ b,L_ref26_Few_0 m l (k:Int)=some b/\(b=true->∀ d ∈ l.drop k,smallD d)
 | 0,_,_,h=>absurd h (Nat.not_lt_zero _)
 | m + 1,k,h1,h=>by
  show ∃ b,B_ref26_Few_0 (L_ref26_Few_0 m) l _=some b/\_
  unfold B_ref26_Few_0
  by_cases hlt:k < l.length
  ·have hd:∃ f:Bool,(get? l (k:Int) fun x7=>if? (decide (((x7.2.2.length:Nat):Int) > 20)) (some (l,(k:Int),true)) (get? l (k:Int) fun x8=>if? (decide (((x8.2.1.length:Nat):Int) > 8)) (get? l (k:Int) fun x9=>if? (decide (((x9.2.1.length:Nat):Int) <= 40)) (some (l,(k:Int),true)) (get? l (k:Int) fun x10=>some (l,(k:Int),decide (((x10.2.1.length:Nat):Int) > 42)))) (get? l (k:Int) fun x11=>some (l,(k:Int),decide (((x11.2.1.length:Nat):Int) > 42)))))=some (l,(k:Int),f)/\(f=false->smallD l[k]):=by
    simp only [q_get (getn hlt)]
    by_cases c1:((l[k].2.2.length:Nat):Int) > 20
    ·exact ⟨true,by rw [decide_eq_true c1];rfl,fun e=>by cases e⟩
    ·rw [decide_eq_false c1,q_if0]
     by_cases c2:((l[k].2.1.length:Nat):Int) > 8
     ·rw [decide_eq_true c2,q_if1]
      by_cases c3:((l[k].2.1.length:Nat):Int) <= 40
      ·exact ⟨true,by rw [decide_eq_true c3];rfl,fun e=>by cases e⟩
      ·rw [decide_eq_false c3,q_if0]
       exact ⟨_,rfl,fun e=>⟨by omega,by have:=of_decide_eq_false e;omega⟩⟩
     ·rw [decide_eq_false c2,q_if0]
      exact ⟨_,rfl,fun e=>⟨by omega,by have:=of_decide_eq_false e;omega⟩⟩
   obtain ⟨f,e1,e2⟩:=hd
   rw [lt_t hlt,q_if1,e1]
   simp only [q_bd]
   cases f with
   | true=>exact ⟨false,rfl,fun e=>by cases e⟩
   | false =>
    obtain ⟨b,i1,i2⟩:=few_loop hl m (k + 1) (by omega) (by omega)
    refine ⟨b,by rw [q_if0,q_ck (by omega) (by omega),show ((k:Int) + 1)=((k + 1:Nat):Int) by omega];exact i1,fun hb d hd=>?_⟩
    rw [List.drop_eq_getElem_cons hlt] at hd
    rcases List.mem_cons.1 hd with rfl | hd
    ·exact e2 rfl
    ·exact i2 hb d hd
  ·exact ⟨true,by rw [lt_f hlt,q_if0],fun _ d hd=>by rw [List.drop_of_length_le (by omega)] at hd;cases hd⟩
theorem few_eq {N:Nat} (hN:2010 < N) (l:List De) (most:Int):∃ b,G_ref26_Few N l most=some b/\(b=true->∀ d ∈ l,smallD d):=by
 unfold G_ref26_Few
 have hs:∃ f:Bool,(if? (decide (((l.length:Nat):Int) > most)) (if? (decide (((l.length:Nat):Int) <= 2000)) (some (l,true)) (some (l,decide (((l.length:Nat):Int) > 2010)))) (some (l,decide (((l.length:Nat):Int) > 2010))))=some (l,f)/\(f=false->l.length <= 2010):=by
  by_cases c1:((l.length:Nat):Int) > most
  ·rw [decide_eq_true c1,q_if1]
   by_cases c2:((l.length:Nat):Int) <= 2000
   ·exact ⟨true,by rw [decide_eq_true c2];rfl,fun e=>by cases e⟩
   ·rw [decide_eq_false c2,q_if0]
    exact ⟨_,rfl,fun e=>by have:=of_decide_eq_false e;omega⟩
  ·rw [decide_eq_false c1,q_if0]
   exact ⟨_,rfl,fun e=>by have:=of_decide_eq_false e;omega⟩
 obtain ⟨f,e1,e2⟩:=hs
 rw [e1]
 simp only [q_bd]
 cases f with
 | true=>exact ⟨false,rfl,fun e=>by cases e⟩
 | false =>
  have:=e2 rfl
  obtain ⟨b,i1,i2⟩:=few_loop (l:=l) (by omega) N 0 (Nat.zero_le _) (by omega)
  exact ⟨b,by rw [q_if0];exact i1,fun hb d hd=>i2 hb d (by rw [List.drop_zero];exact hd)⟩
theorem few_of {N:Nat} (hN:2010 < N) {l:List De} (hl:l.length <= 2010) (h:∀ d ∈ l,smallD d):Few N l :=
 ⟨by omega,by omega,fun d hd=>by have:=h d hd;unfold smallD at this;omega,fun d hd=>by have:=h d hd;unfold smallD at this;omega⟩
abbrev Tk:=Int × Int
abbrev MP:=List (Arr 2 × List Tk)
structure Wd (mp:MP) (B:Nat):Prop where
 len:mp.length <= B
 row:∀ e ∈ mp,e.2.length <= B
theorem mGet_mem {α β:Type} [DecidableEq α]:∀ {es:List (α × β)} {k:α} {v:β},mGet es k=some v->(k,v) ∈ es
 | [],_,_,h=>by cases h
 | e :: es,k,v,h=>by
  unfold mGet at h
  split at h
  ·rename_i he
   cases h
   rw [<- he];exact List.mem_cons_self
  ·exact List.mem_cons_of_mem _ (mGet_mem h)
theorem Wd.get {mp:MP} {B:Nat} (h:Wd mp B) (k:Arr 2):((mGet mp k).getD []).length <= B:=by
 cases e:mGet mp k with
 | none=>simp
 | some v=>exact h.row _ (mGet_mem e)
section
variable {rec22:(List De)->Int->(List Rd)->Int->Int->(List (Int × Bool))->MP->Option ((List De) × (Int × ((List (Int × Bool)) × MP)))} {l:List De} {k i:Int} {rs:List Rd} {n:Int} {need:MB}
end
section
variable {N:Nat} {rec47:(List Rd)->MP->(List (Arr 2))->Option (Int × (List Rd))} {mp:MP} {rem:List (Arr 2)} {k:Arr 2}
end
theorem okL_right:∀ {r pre:List De},okL pre r=true->∀ d ∈ r,rightB d=true:=by
 intro r
 induction r with
 | nil=>intro _ _ d hd;cases hd
 | cons e r ih =>
  intro pre h d hd
  unfold okL at h
  rw [Bool.and_eq_true] at h
  rcases List.mem_cons.1 hd with rfl | hd
  ·have:=h.1
   unfold okD at this
   simp only [Bool.and_eq_true] at this
   exact this.1.2
  ·exact ih h.2 d hd
theorem chk_right {l:List De} (h:chk l=0):∀ d ∈ l,rightB d=true:=okL_right (chk_ok h)
inductive Aff (l:List De) (T:De->Prop):De->Prop
 | own {d:De}:d ∈ l->T d->Aff l T d
 | of {d e:De}:d ∈ l->Aff l T e->e.1 ∈ d.2.2->Aff l T d
theorem Aff.trans {l:List De} {T U:De->Prop} (hTU:∀ d,T d->Aff l U d) {d:De} (h:Aff l T d):Aff l U d:=by
 induction h with
 | own hd h=>exact hTU _ h
 | of hd _ ho ih=>exact .of hd ih ho
theorem k_low {k:Int} (h:(bits .andNot .i64 k 15)=0):(BitVec.ofInt 64 k).toNat <= 15:=by
 have h:IntKind.wrap .i64 ((BitVec.ofInt 64 k &&& ~~~(BitVec.ofInt 64 15)).toNat:Int)=0:=h
 rw [IntKind.wrap_i64] at h
 generalize BitVec.ofInt 64 k=a at h |-
 have e15:BitVec.ofInt 64 15=15#64:=by decide
 rw [e15] at h
 have hlt:=(a &&& ~~~15#64).isLt
 have h0:(a &&& ~~~15#64).toNat=0:=by omega
 have hz:a &&& ~~~15#64=0#64:=BitVec.eq_of_toNat_eq (by rw [h0];rfl)
 have ha:a=a &&& 15#64:=by
  have:(a &&& 15#64) ||| (a &&& ~~~15#64)=a:=by
   ext i hi
   simp only [BitVec.getElem_or,BitVec.getElem_and,BitVec.getElem_not]
   cases a[i] <;> cases (15#64)[i] <;> rfl
  rw [hz,BitVec.or_zero] at this
  exact this.symm
 rw [ha,BitVec.toNat_and]
 exact Nat.and_le_right
theorem ascR_loop {l:List Int} {lo hi:Int} (hl:l.length <= 4611686018427387904):∀ (m k:Nat),k <= l.length->l.length - k < m ->
  ∃ b,L_ref26_ascends_0 m l lo hi (k:Int)=some b/\(b=true ↔ ∀ i (h:i < l.length),k <= i->lo <= l[i]/\l[i] < hi/\(0 < i->l[i - 1] < l[i]))
 | 0,_,_,h=>absurd h (Nat.not_lt_zero _)
 | m + 1,k,h1,h=>by
  show ∃ b,B_ref26_ascends_0 (L_ref26_ascends_0 m) l lo hi _=some b/\_
  unfold B_ref26_ascends_0
  by_cases hlt:k < l.length
  ·have hd:∃ f:Bool,(get? l (k:Int) fun x9=>if? (decide (x9 < lo)) (some (l,lo,hi,(k:Int),true)) (get? l (k:Int) fun x10=>if? (decide (x10 ≥ hi)) (some (l,lo,hi,(k:Int),true)) (if? (decide ((k:Int) > 0)) (get? l (k:Int) fun x11=>ck .i64 (((k:Int) - 1)) (get? l (((k:Int) - 1)) fun x12=>some (l,lo,hi,(k:Int),decide (x11 <= x12)))) (some (l,lo,hi,(k:Int),false)))))=some (l,lo,hi,(k:Int),f)/\(f=false ↔ lo <= l[k]/\l[k] < hi/\(0 < k->l[k - 1] < l[k])):=by
    simp only [q_get (getn hlt)]
    by_cases c1:l[k] < lo
    ·exact ⟨true,by rw [decide_eq_true c1];rfl,⟨(by intro h;cases h),fun h=>by omega⟩⟩
    ·rw [decide_eq_false c1,q_if0]
     by_cases c2:l[k] ≥ hi
     ·exact ⟨true,by rw [decide_eq_true c2];rfl,⟨(by intro h;cases h),fun h=>by omega⟩⟩
     ·rw [decide_eq_false c2,q_if0]
      by_cases c3:0 < k
      ·rw [decide_eq_true (show (k:Int) > 0 by omega),q_if1,q_ck (by omega) (by omega),q_geti (x:=l[k - 1]) (by omega) (by rw [show ((k:Int) - 1).toNat=k - 1 by omega];exact getn (by omega))]
       exact ⟨_,rfl,⟨fun h=>⟨by omega,by omega,fun _=>by have:=of_decide_eq_false h;omega⟩,fun h=>decide_eq_false (by have:=h.2.2 c3;omega)⟩⟩
      ·rw [decide_eq_false (show ¬ (k:Int) > 0 by omega),q_if0]
       exact ⟨false,rfl,⟨fun _=>⟨by omega,by omega,fun q=>absurd q c3⟩,fun _=>rfl⟩⟩
   obtain ⟨f,e1,e2⟩:=hd
   rw [lt_t hlt,q_if1,e1]
   simp only [q_bd]
   cases f with
   | true=>exact ⟨false,rfl,⟨(by intro h;cases h),fun h=>by have:=e2.2 (h k hlt (Nat.le_refl _));cases this⟩⟩
   | false =>
    obtain ⟨b,i1,i2⟩:=ascR_loop (lo:=lo) (hi:=hi) hl m (k + 1) (by omega) (by omega)
    refine ⟨b,by rw [q_if0,q_ck (by omega) (by omega),show ((k:Int) + 1)=((k + 1:Nat):Int) by omega];exact i1,i2.trans ⟨fun q i h hi=>?_,fun q i h hi=>q i h (by omega)⟩⟩
    by_cases e:i=k
    ·subst e;exact e2.1 rfl
    ·exact q i h (by omega)
  ·exact ⟨true,by rw [lt_f hlt,q_if0],⟨fun _ i h hi=>by omega,fun _=>rfl⟩⟩
theorem ascR_eq {N:Nat} {l:List Int} {lo hi:Int} (hl:l.length <= 4611686018427387904) (hN:l.length < N):∃ b,G_ref26_ascends N l lo hi=some b/\(b=true ↔ ∀ i (h:i < l.length),lo <= l[i]/\l[i] < hi/\(0 < i->l[i - 1] < l[i])):=by
 obtain ⟨b,e1,e2⟩:=ascR_loop (lo:=lo) (hi:=hi) hl N 0 (Nat.zero_le _) (by omega)
 exact ⟨b,e1,e2.trans ⟨fun q i h=>q i h (Nat.zero_le _),fun q i h _=>q i h⟩⟩
theorem asc_adj {l:List Int}:asc l=true ↔ ∀ i (h:i < l.length),0 < i->l[i - 1] < l[i]:=by
 rw [asc_iff]
 constructor
 ·intro h i hi h0
  exact List.pairwise_iff_getElem.1 h (i - 1) i (by omega) hi (by omega)
 ·intro h
  rw [List.pairwise_iff_getElem]
  intro i j hi hj hij
  induction j with
  | zero=>omega
  | succ j ih =>
   have h1:=h (j + 1) hj (by omega)
   simp only [Nat.add_sub_cancel] at h1
   rcases Nat.lt_or_ge i j with q | q
   ·have:=ih (by omega) q;omega
   ·have:i=j:=by omega
    subst this;exact h1
theorem ofR_iff {id:Int} {l:List Int}:(asc l=true/\ofOk id l=true) ↔ ∀ i (h:i < l.length),1 <= l[i]/\l[i] < id/\(0 < i->l[i - 1] < l[i]):=by
 rw [asc_adj]
 constructor
 ·rintro ⟨h1,h2⟩
  have hp:=asc_iff.1 (asc_adj.2 h1)
  intro i hi
  refine ⟨?_,?_,h1 i hi⟩
  ·cases l with
   | nil=>cases hi
   | cons a r =>
    unfold ofOk at h2
    rw [Bool.and_eq_true,decide_eq_true_eq] at h2
    rcases Nat.eq_zero_or_pos i with e | e
    ·subst e;exact h2.1
    ·have:=List.pairwise_iff_getElem.1 hp 0 i (by omega) hi e
     have h0:(a :: r)[0]=a:=rfl
     omega
  ·cases l with
   | nil=>cases hi
   | cons a r =>
    unfold ofOk at h2
    rw [Bool.and_eq_true,decide_eq_true_eq,decide_eq_true_eq,List.getLast_eq_getElem] at h2
    rcases Nat.lt_or_ge i ((a :: r).length - 1) with e | e
    ·have:=List.pairwise_iff_getElem.1 hp i ((a :: r).length - 1) hi (by omega) e
     omega
    ·have e2:i=(a :: r).length - 1:=by omega
     subst e2;exact h2.2
 ·intro h
  refine ⟨fun i hi h0=>(h i hi).2.2 h0,?_⟩
  cases l with
  | nil=>rfl
  | cons a r =>
   unfold ofOk
   rw [Bool.and_eq_true,decide_eq_true_eq,decide_eq_true_eq,List.getLast_eq_getElem]
   exact ⟨(h 0 (by simp)).1,(h _ (by simp)).2.1⟩
def kOk (l:List De):Prop:=∀ d ∈ l,∀ x ∈ d.2.1,x.2.1 <= 9223372036854775807
theorem kind15 {k:Int} (h:k <= 9223372036854775807):(k < 1\/k > 15) ↔ (k <= 0\/((bits .andNot .i64 k 15) != 0)=true):=by
 constructor
 ·rintro (q | q)
  ·exact .inl (by omega)
  ·refine .inr ?_
   rw [bne_iff_ne]
   intro e
   have:=k_low e
   rw [BitVec.toNat_ofInt] at this
   simp only [Nat.reducePow,Int.reducePow] at this
   omega
 ·rintro (q | q)
  ·exact .inl (by omega)
  ·rw [bne_iff_ne] at q
   apply Classical.byContradiction
   intro hn
   have hn:1 <= k/\k <= 15:=by omega
   have key:∀ n < 16,(bits .andNot .i64 ((n:Nat):Int) 15)=0:=by decide
   have:=key k.toNat (by omega)
   rw [show ((k.toNat:Nat):Int)=k by omega] at this
   exact q this
theorem rightR_loop {N:Nat} {id:Int} {rs:List Rd} {of:List Int} (hr:rs.length <= 4611686018427387904) (ho:of.length <= 4611686018427387904) (hoN:of.length < N) (hk:∀ x ∈ rs,x.2.1 <= 9223372036854775807):∀ (m k:Nat),k <= rs.length->rs.length - k < m ->
  L_ref26_right_0 N m (k:Int) id rs of=some (!(rs.drop k).any badR && (asc of && ofOk id of))
 | 0,_,_,h=>absurd h (Nat.not_lt_zero _)
 | m + 1,k,h1,h=>by
  show B_ref26_right_0 N (L_ref26_right_0 N m) _ id rs of=_
  unfold B_ref26_right_0
  by_cases hlt:k < rs.length
  ·rw [lt_t hlt,q_if1,q_get (getn hlt),List.drop_eq_getElem_cons hlt,List.any_cons]
   have hkk:=hk _ (List.getElem_mem hlt)
   generalize hx:rs[k]=x at hkk
   have main:(if? (decide (x.1 < 0)) (some ((k:Int),true,id,rs,of)) (if? (decide (x.1 > 39)) (some ((k:Int),true,id,rs,of)) (if? (decide (x.2.2.1 < 0)) (some ((k:Int),true,id,rs,of)) (if? (decide (x.2.2.1 ≥ x.2.2.2)) (some ((k:Int),true,id,rs,of)) (if? (decide (x.2.2.2 > 1402560)) (some ((k:Int),true,id,rs,of)) (if? (decide (x.2.1 < 1)) (some ((k:Int),true,id,rs,of)) (some ((k:Int),decide (x.2.1 > 15),id,rs,of))))))))=some ((k:Int),badR x,id,rs,of):=by
    have e1:decide (x.1 > 39)=decide (x.1 ≥ 40):=decide_eq_decide.2 (by omega)
    have e2:decide (x.2.2.1 ≥ x.2.2.2)=decide (x.2.2.2 <= x.2.2.1):=rfl
    have e3:(decide (x.2.1 < 1) || decide (x.2.1 > 15))=(decide (x.2.1 <= 0) || (bits .andNot .i64 x.2.1 15) != 0):=by
     rw [Bool.eq_iff_iff,Bool.or_eq_true,Bool.or_eq_true,decide_eq_true_eq,decide_eq_true_eq,decide_eq_true_eq]
     exact kind15 hkk
    have e4:badR x=(decide (x.1 < 0) || decide (x.1 > 39) || decide (x.2.2.1 < 0) || decide (x.2.2.1 ≥ x.2.2.2) || decide (x.2.2.2 > 1402560) || (decide (x.2.1 < 1) || decide (x.2.1 > 15))):=by
     rw [e3,e1,e2,<- Bool.or_assoc];rfl
    rw [e4]
    cases decide (x.1 < 0) <;> cases decide (x.1 > 39) <;> cases decide (x.2.2.1 < 0) <;> cases decide (x.2.2.1 ≥ x.2.2.2) <;> cases decide (x.2.2.2 > 1402560) <;> cases decide (x.2.1 < 1) <;> rfl
   rw [main]
   simp only [q_bd]
   cases hb:badR x with
   | true=>rfl
   | false =>
    rw [q_if0,q_ck (by omega) (by omega),show ((k:Int) + 1)=((k + 1:Nat):Int) by omega,rightR_loop hr ho hoN hk m (k + 1) (by omega) (by omega)]
    rfl
  ·rw [lt_f hlt,q_if0,List.drop_of_length_le (by omega)]
   obtain ⟨b,e1,e2⟩:=ascR_eq (N:=N) (lo:=1) (hi:=id) ho hoN
   rw [e1]
   simp only [q_bd,List.any_nil,Bool.not_false,Bool.true_and]
   rw [Option.some.injEq,Bool.eq_iff_iff,e2,Bool.and_eq_true]
   exact ofR_iff.symm
theorem rightR_eq {N:Nat} {d:De} (hr:d.2.1.length <= 4611686018427387904) (ho:d.2.2.length <= 4611686018427387904) (h1:d.2.1.length < N) (h2:d.2.2.length < N) (hk:∀ x ∈ d.2.1,x.2.1 <= 9223372036854775807):G_ref26_right N d=some (rightB d):=by
 unfold G_ref26_right rightB
 have hl:=rightR_loop (N:=N) (id:=d.1) (of:=d.2.2) hr ho h2 hk N 0 (Nat.zero_le _) (by omega)
 rw [List.drop_zero] at hl
 have hl:L_ref26_right_0 N N 0 d.1 d.2.1 d.2.2=_:=hl
 cases decide (d.1 < 1) <;> cases decide (d.1 > 1099511627776) <;> cases decide ((d.2.1.length:Int) > 40) <;> simp only [q_if0,q_if1,q_bd,hl] <;> cases asc d.2.2 <;> simp
theorem atR_loop {l:List De} {id:Int} (hl:l.length <= 4611686018427387904):∀ (m k:Nat),k <= l.length->l.length - k < m ->
  ∃ v:Int,L_ref26_At_0 m l id (k:Int)=some v/\((v=-1/\id ∉ ids (l.drop k))\/∃ j,∃ h:j < l.length,k <= j/\v=(j:Int)/\l[j].1=id)
 | 0,_,_,h=>absurd h (Nat.not_lt_zero _)
 | m + 1,k,h1,h=>by
  show ∃ v:Int,B_ref26_At_0 (L_ref26_At_0 m) l id _=some v/\_
  unfold B_ref26_At_0
  by_cases hlt:k < l.length
  ·rw [lt_t hlt,q_if1,q_get (getn hlt)]
   by_cases e:l[k].1=id
   ·rw [show (l[k].1 == id)=true by simpa using e,q_if1]
    exact ⟨_,rfl,.inr ⟨k,hlt,Nat.le_refl _,rfl,e⟩⟩
   ·rw [show (l[k].1 == id)=false by simpa using e,q_if0,q_ck (by omega) (by omega),show ((k:Int) + 1)=((k + 1:Nat):Int) by omega]
    obtain ⟨v,i1,i2⟩:=atR_loop (id:=id) hl m (k + 1) (by omega) (by omega)
    refine ⟨v,i1,?_⟩
    rcases i2 with ⟨q1,q2⟩ | ⟨j,hj,q,r⟩
    ·refine .inl ⟨q1,fun q=>?_⟩
     rw [List.drop_eq_getElem_cons hlt,ids,List.map_cons] at q
     rcases List.mem_cons.1 q with q | q
     ·exact e q.symm
     ·exact q2 q
    ·exact .inr ⟨j,hj,by omega,r⟩
  ·exact ⟨-1,by rw [lt_f hlt,q_if0],.inl ⟨rfl,by rw [List.drop_of_length_le (by omega)];exact List.not_mem_nil⟩⟩
theorem atR_eq {N:Nat} {l:List De} {id:Int} (hl:l.length <= 4611686018427387904) (hN:l.length < N) :
  ∃ v:Int,G_ref26_At N l id=some v/\((v=-1/\id ∉ ids l)\/∃ j,∃ h:j < l.length,v=(j:Int)/\l[j].1=id):=by
 obtain ⟨v,e1,e2⟩:=atR_loop (id:=id) hl N 0 (Nat.zero_le _) (by omega)
 refine ⟨v,e1,?_⟩
 rcases e2 with e2 | ⟨j,hj,_,r⟩
 ·exact .inl e2
 ·exact .inr ⟨j,hj,r⟩
theorem knownR_loop {N:Nat} {l:List De} (hl:l.length <= 4611686018427387904) (hN:l.length < N) {is:List Int} (hi:is.length <= 4611686018427387904):∀ (m k:Nat),k <= is.length->is.length - k < m ->
  L_ref26_known_0 N m l is (k:Int)=some ((is.drop k).all fun i=>decide (i ∈ ids l))
 | 0,_,_,h=>absurd h (Nat.not_lt_zero _)
 | m + 1,k,h1,h=>by
  show B_ref26_known_0 N (L_ref26_known_0 N m) l is _=_
  unfold B_ref26_known_0
  by_cases hlt:k < is.length
  ·obtain ⟨v,e1,e2⟩:=atR_eq (id:=is[k]) hl hN
   rw [lt_t hlt,q_if1,q_get (getn hlt),e1,List.drop_eq_getElem_cons hlt,List.all_cons]
   simp only [q_bd]
   rcases e2 with ⟨rfl,q⟩ | ⟨j,hj,rfl,q⟩
   ·rw [decide_eq_true (by omega),decide_eq_false q];rfl
   ·have hm:is[k] ∈ ids l:=List.mem_map.2 ⟨_,List.getElem_mem hj,q⟩
    rw [decide_eq_false (by omega),decide_eq_true hm,q_if0,q_ck (by omega) (by omega),show ((k:Int) + 1)=((k + 1:Nat):Int) by omega,knownR_loop hl hN hi m (k + 1) (by omega) (by omega)]
    rfl
  ·rw [lt_f hlt,q_if0,List.drop_of_length_le (by omega)];rfl
theorem knownR_eq {N:Nat} {l:List De} (hl:l.length <= 4611686018427387904) (hN:l.length < N) {is:List Int} (hi:is.length <= 4611686018427387904) (hN2:is.length < N):G_ref26_known N l is=some (is.all fun i=>decide (i ∈ ids l)):=by
 unfold G_ref26_known
 have:=knownR_loop hl hN hi N 0 (Nat.zero_le _) (by omega)
 rw [List.drop_zero] at this
 exact this
theorem checkR_loop {N:Nat} {l:List De} (hf:Few N l) (hk:kOk l):∀ (m k:Nat),k <= l.length->l.length - k < m ->
  L_ref26_Check_0 N m l (k:Int)=some (if okL (l.take k) (l.drop k)=true then 0 else 1)
 | 0,_,_,h=>absurd h (Nat.not_lt_zero _)
 | m + 1,k,h1,h=>by
  show B_ref26_Check_0 N (L_ref26_Check_0 N m) l _=_
  unfold B_ref26_Check_0
  have hbig:=hf.big
  have hlen:=hf.len
  by_cases hlt:k < l.length
  ·have hm:=List.getElem_mem hlt
   have hd:=hf.rd _ hm
   have ho:=hf.of _ hm
   have htk:(l.take k).length=k:=by rw [List.length_take];omega
   have hr:G_ref26_right N (l[k].1,(l[k].2.1,l[k].2.2))=some (rightB l[k]):=rightR_eq (d:=l[k]) hd.2 ho.2 hd.1 ho.1 (hk _ hm)
   have hkn:G_ref26_known N (List.take ((k:Int).toNat - 0) (List.drop 0 l)) l[k].2.2=some (l[k].2.2.all fun i=>decide (i ∈ ids (l.take k))):=by
    rw [show (k:Int).toNat - 0=k by omega,List.drop_zero]
    exact knownR_eq (by omega) (by omega) ho.2 ho.1
   rw [lt_t hlt,q_if1,q_get (getn hlt),hr]
   simp only [q_bd]
   rw [q_gdT (by omega),q_gdT (by omega),q_gdT (by omega),q_get (getn hlt),hkn,List.drop_eq_getElem_cons hlt,okL]
   simp only [q_bd]
   have main:(if? (!rightB l[k]) (some (l,(k:Int),true)) (if? (!(l[k].2.2.all fun i=>decide (i ∈ ids (l.take k)))) (some (l,(k:Int),true)) (if? (decide ((k:Int) > 0)) (get? l (k:Int) fun x9=>ck .i64 ((k:Int) - 1) (get? l ((k:Int) - 1) fun x10=>some (l,(k:Int),decide (x9.1 <= x10.1)))) (some (l,(k:Int),false)))))=some (l,(k:Int),!okD (l.take k) l[k]):=by
    unfold okD
    by_cases hk0:k=0
    ·subst hk0
     cases rightB l[0] <;> cases (l[0].2.2.all fun i=>decide (i ∈ ids (l.take 0))) <;> rfl
    ·have e1:((k:Int) - 1).toNat=k - 1:=by omega
     have e2:(l.take k).getLast?=some l[k - 1]:=by
      rw [List.getLast?_eq_getElem?,htk,List.getElem?_take_of_lt (by omega),getn (by omega)]
     rw [decide_eq_true (show (k:Int) > 0 by omega),q_if1,q_get (getn hlt),q_ck (by omega) (by omega),q_geti (by omega) (by rw [e1];exact getn (by omega)),e2]
     cases rightB l[k] <;> cases (l[k].2.2.all fun i=>decide (i ∈ ids (l.take k))) <;> simp
   rw [main]
   simp only [q_bd]
   cases hok:okD (l.take k) l[k] with
   | false=>rfl
   | true =>
    show if? (!true) _ _=_
    rw [q_ifn,q_if1,q_ck (by omega) (by omega),show ((k:Int) + 1)=((k + 1:Nat):Int) by omega,Bool.true_and,List.take_append_getElem hlt]
    exact checkR_loop hf hk m (k + 1) (by omega) (by omega)
  ·rw [lt_f hlt,q_if0,List.drop_of_length_le (by omega)];rfl
theorem checkR_eq {N:Nat} {l:List De} (hf:Few N l) (hk:kOk l):G_ref26_Check N l=some (chk l):=by
 unfold G_ref26_Check chk
 by_cases h:l.length > 2000
 ·rw [if_pos h,decide_eq_true (show ((l.length:Nat):Int) > 2000 by omega)];rfl
 ·rw [if_neg h,decide_eq_false (show ¬ ((l.length:Nat):Int) > 2000 by omega),q_if0]
  have:=checkR_loop hf hk N 0 (Nat.zero_le _) (by have:=hf.len;omega)
  simpa using this
theorem bit_andG {k:Int} {j:Nat} (hj:j <= 3):((bits .and .i64 k (1 * 2 ^ j)) > 0) ↔ (bits .and .i64 (k / (2 ^ j)) 1)=1:=by
 have e1:(bits .and .i64 k (1 * 2 ^ j))=IntKind.wrap .i64 ((((k % 2 ^ 64).toNat &&& 2 ^ j:Nat)):Int):=by
  show IntKind.wrap .i64 ((BitVec.ofInt 64 k &&& BitVec.ofInt 64 (1 * 2 ^ j)).toNat:Int)=_
  rw [BitVec.toNat_and,BitVec.toNat_ofInt,BitVec.toNat_ofInt]
  have:((1 * 2 ^ j:Int) % ((2 ^ 64:Nat):Int)).toNat=2 ^ j:=by
   match j,hj with
   | 0,_=>rfl
   | 1,_=>rfl
   | 2,_=>rfl
   | 3,_=>rfl
  rw [this];rfl
 have e2:(bits .and .i64 (k / (2 ^ j)) 1)=IntKind.wrap .i64 (((((k / 2 ^ j) % 2 ^ 64).toNat % 2:Nat)):Int):=by
  show IntKind.wrap .i64 ((BitVec.ofInt 64 (k / 2 ^ j) &&& 1#64).toNat:Int)=_
  rw [BitVec.toNat_and,BitVec.toNat_ofInt,show (1#64).toNat=1 from rfl,Nat.and_one_is_mod]
  rfl
 have e3:((k / 2 ^ j) % 2 ^ 64).toNat % 2=(k % 2 ^ 64).toNat / 2 ^ j % 2:=by
  match j,hj with
  | 0,_=>simp only [Int.pow_zero,Nat.pow_zero];omega
  | 1,_=>simp only [Int.pow_one,Nat.pow_one];omega
  | 2,_=>rw [show (2:Int) ^ 2=4 from rfl,show (2:Nat) ^ 2=4 from rfl];omega
  | 3,_=>rw [show (2:Int) ^ 3=8 from rfl,show (2:Nat) ^ 3=8 from rfl];omega
 have e4:(k % 2 ^ 64).toNat &&& 2 ^ j=((k % 2 ^ 64).toNat / 2 ^ j % 2) * 2 ^ j:=by
  generalize (k % 2 ^ 64).toNat=n
  apply Nat.eq_of_testBit_eq
  intro i
  rw [Nat.testBit_and,Nat.testBit_two_pow]
  have:n / 2 ^ j % 2=0\/n / 2 ^ j % 2=1:=by omega
  by_cases e:j=i
  ·subst e
   rw [Nat.testBit_eq_decide_div_mod_eq]
   rcases this with h | h <;> rw [h]
   ·rw [Nat.zero_mul,Nat.zero_testBit];simp
   ·rw [Nat.one_mul,Nat.testBit_two_pow];simp
  ·rw [decide_eq_false e,Bool.and_false]
   rcases this with h | h <;> rw [h]
   ·rw [Nat.zero_mul,Nat.zero_testBit]
   ·rw [Nat.one_mul,Nat.testBit_two_pow,decide_eq_false e]
 rw [e1,e2,e3,e4]
 have:(k % 2 ^ 64).toNat / 2 ^ j % 2=0\/(k % 2 ^ 64).toNat / 2 ^ j % 2=1:=by omega
 rcases this with h | h <;> rw [h]
 ·rw [Nat.zero_mul];decide
 ·match j,hj with
  | 0,_=>decide
  | 1,_=>decide
  | 2,_=>decide
  | 3,_=>decide
theorem bitR_eq {N:Nat} (k:Int):G_ref26_bit N k=some (if 0 <= k/\k <= 3 then 1 * 2 ^ k.toNat else 0):=by
 unfold G_ref26_bit
 by_cases h0:k < 0
 ·rw [decide_eq_true h0,if_neg (by omega)];rfl
 ·rw [decide_eq_false h0,q_if0]
  simp only [q_bd]
  by_cases h3:k > 3
  ·rw [decide_eq_true h3,if_neg (by omega)];rfl
  ·have h8:(0:Int) < 1 * 2 ^ k.toNat/\(1 * 2 ^ k.toNat:Int) <= 8:=by
    have:k.toNat <= 3:=by omega
    match k.toNat,this with
    | 0,_=>decide
    | 1,_=>decide
    | 2,_=>decide
    | 3,_=>decide
   rw [decide_eq_false h3,q_if0,q_gdT (by omega),q_gdT (by show k <= 64;omega),q_ck (by omega) (by omega),if_pos (by omega)]
theorem meetsR_eq {N:Nat} (x:Rd) (c:Ch):G_ref26_meets N x c=some ((!decide (c.1 < 0) && !decide (c.1 > 3)) && tR c x):=by
 unfold G_ref26_meets
 rw [bitR_eq]
 simp only [q_bd]
 by_cases h:0 <= c.1/\c.1 <= 3
 ·have h8:(0:Int) < 1 * 2 ^ c.1.toNat:=by
   have:c.1.toNat <= 3:=by omega
   match c.1.toNat,this with
   | 0,_=>decide
   | 1,_=>decide
   | 2,_=>decide
   | 3,_=>decide
  rw [if_pos h,decide_eq_false (show ¬ c.1 < 0 by omega),decide_eq_false (show ¬ c.1 > 3 by omega),decide_eq_true (show (1 * 2 ^ c.1.toNat:Int) > 0 by omega)]
  unfold tR
  have e:decide ((bits .and .i64 x.2.1 (1 * 2 ^ c.1.toNat)) > 0)=((bits .and .i64 (x.2.1 / (2 ^ c.1.toNat)) 1) == 1):=by
   rw [Bool.eq_iff_iff,decide_eq_true_eq,beq_iff_eq]
   exact bit_andG (by omega)
  rw [e]
  cases (x.1 == c.2.1) <;> cases ((bits .and .i64 (x.2.1 / (2 ^ c.1.toNat)) 1) == 1) <;> rfl
 ·rw [if_neg h]
  have:(!decide (c.1 < 0) && !decide (c.1 > 3))=false:=by
   by_cases h0:c.1 < 0
   ·rw [decide_eq_true h0];rfl
   ·rw [decide_eq_true (show c.1 > 3 by omega),Bool.not_true,Bool.and_false]
  rw [this]
  cases (x.1 == c.2.1) <;> rfl
theorem touchesR_loop {N:Nat} {id:Int} {rs:List Rd} {of:List Int} {c:Ch} (hl:rs.length <= 4611686018427387904):∀ (m k:Nat),k <= rs.length->rs.length - k < m ->
  L_ref26_Touches_0 N m (k:Int) id rs of c.1 c.2.1 c.2.2.1 c.2.2.2=some ((!decide (c.1 < 0) && !decide (c.1 > 3)) && (rs.drop k).any (tR c))
 | 0,_,_,h=>absurd h (Nat.not_lt_zero _)
 | m + 1,k,h1,h=>by
  show B_ref26_Touches_0 N (L_ref26_Touches_0 N m) _ id rs of _ _ _ _=_
  unfold B_ref26_Touches_0
  by_cases hlt:k < rs.length
  ·rw [lt_t hlt,q_if1,q_get (getn hlt),List.drop_eq_getElem_cons hlt,List.any_cons,show G_ref26_meets N (rs[k].1,(rs[k].2.1,(rs[k].2.2.1,rs[k].2.2.2))) (c.1,(c.2.1,(c.2.2.1,c.2.2.2)))=some _ from meetsR_eq rs[k] c]
   simp only [q_bd]
   have ih:=touchesR_loop (N:=N) (id:=id) (of:=of) (c:=c) hl m (k + 1) (by omega) (by omega)
   cases hc:(!decide (c.1 < 0) && !decide (c.1 > 3)) with
   | false =>
    rw [Bool.false_and,q_if0,q_ck (by omega) (by omega),show ((k:Int) + 1)=((k + 1:Nat):Int) by omega,ih,hc];rfl
   | true =>
    rw [Bool.true_and,Bool.true_and]
    cases hb:tR c rs[k] with
    | true=>rfl
    | false=>rw [q_if0,q_ck (by omega) (by omega),show ((k:Int) + 1)=((k + 1:Nat):Int) by omega,ih,hc];rfl
  ·rw [lt_f hlt,q_if0,List.drop_of_length_le (by omega)];simp
theorem touchesR_eq {N:Nat} {d:De} {c:Ch} (hl:d.2.1.length <= 4611686018427387904) (hN:d.2.1.length < N):G_ref26_Touches N d c=some (tch d c):=by
 unfold G_ref26_Touches tch
 have:=touchesR_loop (N:=N) (id:=d.1) (of:=d.2.2) (c:=c) hl N 0 (Nat.zero_le _) (by omega)
 rw [List.drop_zero] at this
 exact this
theorem touchedR_loop {N:Nat} {d:De} {cs:List Ch} (hd:d.2.1.length <= 4611686018427387904) (hN:d.2.1.length < N) (hl:cs.length <= 4611686018427387904):∀ (m k:Nat),k <= cs.length->cs.length - k < m ->
  L_ref26_touched_0 N m cs (k:Int) d.1 d.2.1 d.2.2=some ((cs.drop k).any (tch d))
 | 0,_,_,h=>absurd h (Nat.not_lt_zero _)
 | m + 1,k,h1,h=>by
  show B_ref26_touched_0 N (L_ref26_touched_0 N m) cs _ _ _ _=_
  unfold B_ref26_touched_0
  by_cases hlt:k < cs.length
  ·rw [lt_t hlt,q_if1,q_get (getn hlt),List.drop_eq_getElem_cons hlt,List.any_cons,show G_ref26_Touches N (d.1,(d.2.1,d.2.2)) (cs[k].1,(cs[k].2.1,(cs[k].2.2.1,cs[k].2.2.2)))=some _ from touchesR_eq (d:=d) (c:=cs[k]) hd hN]
   simp only [q_bd]
   cases hb:tch d cs[k] with
   | true=>rfl
   | false =>
    rw [q_if0,q_ck (by omega) (by omega),show ((k:Int) + 1)=((k + 1:Nat):Int) by omega,touchedR_loop hd hN hl m (k + 1) (by omega) (by omega)]
    rfl
  ·rw [lt_f hlt,q_if0,List.drop_of_length_le (by omega)];rfl
theorem touchedR_eq {N:Nat} {d:De} {cs:List Ch} (hd:d.2.1.length <= 4611686018427387904) (hN:d.2.1.length < N) (hl:cs.length <= 4611686018427387904) (hN2:cs.length < N):G_ref26_touched N d cs=some (cs.any (tch d)):=by
 unfold G_ref26_touched
 have:=touchedR_loop (d:=d) hd hN hl N 0 (Nat.zero_le _) (by omega)
 rw [List.drop_zero] at this
 exact this
theorem hasR_loop {l:List Int} {x:Int} (hl:l.length <= 4611686018427387904):∀ (m k:Nat),k <= l.length->l.length - k < m->L_ref26_has_0 m l x (k:Int)=some (decide (x ∈ l.drop k))
 | 0,_,_,h=>absurd h (Nat.not_lt_zero _)
 | m + 1,k,h1,h=>by
  show B_ref26_has_0 (L_ref26_has_0 m) l x _=_
  unfold B_ref26_has_0
  by_cases hlt:k < l.length
  ·rw [lt_t hlt,q_if1,q_get (getn hlt),List.drop_eq_getElem_cons hlt]
   by_cases e:l[k]=x
   ·rw [show (l[k] == x)=true by simpa using e,q_if1,decide_eq_true (by rw [e];exact List.mem_cons_self)]
   ·rw [show (l[k] == x)=false by simpa using e,q_if0,q_ck (by omega) (by omega),show ((k:Int) + 1)=((k + 1:Nat):Int) by omega,hasR_loop hl m (k + 1) (by omega) (by omega)]
    refine congrArg some (decide_eq_decide.2 ?_)
    rw [List.mem_cons]
    exact ⟨.inr,fun q=>q.resolve_left fun q=>e q.symm⟩
  ·rw [lt_f hlt,q_if0,List.drop_of_length_le (by omega)]
   simp
theorem hasR_eq {N:Nat} {l:List Int} {x:Int} (hl:l.length <= 4611686018427387904) (hN:l.length < N):G_ref26_has N l x=some (decide (x ∈ l)):=by
 unfold G_ref26_has
 have:=hasR_loop (x:=x) hl N 0 (Nat.zero_le _) (by omega)
 rw [List.drop_zero] at this
 exact this
theorem beginR_loop {N:Nat} {l:List De} {cs:List Ch} (hf:Few N l) (hl:l.length <= 1000000000000) (hc:cs.length <= 4611686018427387904) (hN2:cs.length < N) {a b:Int} {e:List Int}:∀ (m k:Nat) (out:List Int),k <= l.length->l.length - k < m->out.length <= k ->
  L_ref26_Begin_0 N m l cs (k:Int) a b out e=some (out ++ tids cs (l.drop k),(0,0))
 | 0,_,_,_,h,_=>absurd h (Nat.not_lt_zero _)
 | m + 1,k,out,h1,h,h2=>by
  show B_ref26_Begin_0 N (L_ref26_Begin_0 N m) l cs _ a b out e=_
  unfold B_ref26_Begin_0
  by_cases hlt:k < l.length
  ·have hm:=List.getElem_mem hlt
   have hd:=hf.rd _ hm
   rw [lt_t hlt,q_if1,q_get (getn hlt),List.drop_eq_getElem_cons hlt,show G_ref26_touched N (l[k].1,(l[k].2.1,l[k].2.2)) cs=some _ from touchedR_eq (d:=l[k]) hd.2 hd.1 hc hN2,q_get (getn hlt)]
   simp only [q_bd]
   have e0:tids cs (l[k] :: l.drop (k + 1))=(if cs.any (tch l[k])=true then [l[k].1] else []) ++ tids cs (l.drop (k + 1)):=by
    unfold tids
    rw [List.filter_cons]
    split <;> simp
   rw [e0]
   cases hb:cs.any (tch l[k]) with
   | true =>
    simp only [q_if1,q_gl,if_true]
    rw [q_gdT (by simp;omega)]
    simp only [q_bd,q_gl]
    rw [q_ck (by omega) (by omega),show ((k:Int) + 1)=((k + 1:Nat):Int) by omega,beginR_loop hf hl hc hN2 m (k + 1) (out ++ [l[k].1]) (by omega) (by omega) (by simp;omega)]
    simp
   | false =>
    simp only [q_if0,q_gl,Bool.false_eq_true,if_false,q_bd]
    rw [q_ck (by omega) (by omega),show ((k:Int) + 1)=((k + 1:Nat):Int) by omega,beginR_loop hf hl hc hN2 m (k + 1) out (by omega) (by omega) (by omega)]
    simp
  ·rw [lt_f hlt,q_if0,List.drop_of_length_le (by omega),q_gl]
   simp [tids]
theorem beginR_eq {N:Nat} {l:List De} {cs:List Ch} (hf:Few N l) (hk:kOk l) (hl:l.length <= 1000000000000) (hc:cs.length <= 4611686018427387904) (hN2:cs.length < N):G_ref26_Begin N l cs=some (if chk l=0 then (tids cs l,(0,0)) else ([],(0,chk l))):=by
 unfold G_ref26_Begin
 rw [checkR_eq hf hk]
 simp only [q_bd]
 by_cases h:chk l=0
 ·rw [h]
  simp only [bne_self_eq_false,q_if0,if_true]
  have:=beginR_loop (N:=N) (a:=0) (b:=0) (e:=[]) hf hl hc hN2 N 0 [] (Nat.zero_le _) (by have:=hf.len;omega) (Nat.le_refl _)
  simpa using this
 ·rw [if_neg h,show (chk l != 0)=true by simpa using h];rfl
theorem head_drop {T:List Int} {p:Int} {k:Nat} (hk:k < T.length):(T.drop k).filter (fun x=>decide (p < x))=if T[k] > p then T[k] :: (T.drop (k + 1)).filter (fun x=>decide (p < x)) else (T.drop (k + 1)).filter (fun x=>decide (p < x)):=by
 rw [List.drop_eq_getElem_cons hk,List.filter_cons]
 by_cases h:T[k] > p
 ·rw [if_pos h,if_pos (decide_eq_true h)]
 ·rw [if_neg h,if_neg (by rw [decide_eq_false h];exact Bool.false_ne_true)]
def firstF (l:List Int):Int × Int:=match l with
 | []=>(0,8)
 | x :: _=>(x,0)
theorem nextR_loop {T:List Int} {p a b:Int} (hT:T.length <= 4611686018427387904):∀ (m k:Nat),k <= T.length->T.length - k < m->L_ref26_Next_0 m (k:Int) T p a b=some (firstF ((T.drop k).filter fun x=>decide (p < x)))
 | 0,_,_,h=>absurd h (Nat.not_lt_zero _)
 | m + 1,k,h1,h=>by
  show B_ref26_Next_0 (L_ref26_Next_0 m) _ T p a b=_
  unfold B_ref26_Next_0
  by_cases hlt:k < T.length
  ·rw [lt_t hlt,q_if1,q_get (getn hlt),head_drop hlt,q_get (getn hlt)]
   by_cases e:T[k] > p
   ·rw [decide_eq_true e,if_pos e];rfl
   ·rw [decide_eq_false e,if_neg e,q_if0,q_ck (by omega) (by omega),show ((k:Int) + 1)=((k + 1:Nat):Int) by omega,nextR_loop hT m (k + 1) (by omega) (by omega)]
  ·rw [lt_f hlt,q_if0,List.drop_of_length_le (by omega)];rfl
theorem id_range {l:List De} (hc:chk l=0) {x:Int} (hx:x ∈ ids l):1 <= x/\x <= 1099511627776:=by
 obtain ⟨d,hd,rfl⟩:=List.mem_map.1 hx
 have h:=chk_right hc d hd
 unfold rightB at h
 simp only [Bool.and_eq_true,Bool.not_eq_true',Bool.or_eq_false_iff,decide_eq_false_iff_not] at h
 omega
theorem nextR_eq {N:Nat} {l:List De} (hf:Few N l) (hk:kOk l) {T:List Int} {p:Int} (hT:T.length <= 4611686018427387904) (hN:T.length < N):G_ref26_Next N l (T,p)=some (nextF l T p):=by
 unfold G_ref26_Next nextF
 rw [checkR_eq hf hk]
 simp only [q_bd]
 by_cases h:chk l=0
 ·have hs:=chk_srt h
  rw [h,if_neg (by omega)]
  obtain ⟨o,o1,o2⟩:=ascR_eq (N:=N) (lo:=1) (hi:=1099511627777) hT hN
  rw [o1,knownR_eq hf.big hf.len hT hN,hasR_eq hT hN]
  simp only [bne_self_eq_false,q_if0,q_bd]
  by_cases hkn:(T.all fun i=>decide (i ∈ ids l))=true
  ·have ho:o=asc T:=by
    rw [Bool.eq_iff_iff,o2,asc_adj]
    constructor
    ·intro q i hi h0;exact (q i hi).2.2 h0
    ·intro q i hi
     have:=id_range h (of_decide_eq_true (List.all_eq_true.1 hkn T[i] (List.getElem_mem hi)))
     exact ⟨by omega,by omega,q i hi⟩
   rw [ho,hkn]
   cases ha:asc T with
   | false=>rfl
   | true =>
    rw [if_neg (by simp)]
    have hp:=asc_iff.1 ha
    simp only [q_ifn,q_if1]
    have hl:=nextR_loop (p:=p) (a:=0) (b:=0) hT N 0 (Nat.zero_le _) (by omega)
    rw [List.drop_zero,filter_gt hp p] at hl
    have hl:L_ref26_Next_0 N 0 T p 0 0=_:=hl
    by_cases hp0:p=0
    ·subst hp0
     rw [if_neg (fun q=>q.1 rfl)]
     simp only [bne_self_eq_false,q_if0,q_bd]
     rw [hl];rfl
    ·rw [show (p != 0)=true by simpa using hp0,q_if1]
     simp only [q_bd,q_ifn]
     by_cases hm:p ∈ T
     ·rw [decide_eq_true hm,q_if1,if_neg (fun q=>q.2 hm),hl]
      simp only [if_pos hm];rfl
     ·rw [decide_eq_false hm,q_if0,if_pos ⟨hp0,hm⟩]
  ·have hkn:(T.all fun i=>decide (i ∈ ids l))=false:=by simpa using hkn
   rw [hkn,if_pos (.inr rfl)]
   cases o <;> rfl
 ·rw [if_pos h,show (chk l != 0)=true by simpa using h];rfl
theorem doneR_loop {N:Nat} {l:List De} {T:List Int} {x p a1 a2 a3 a5:Int} {ch:Bool} {e:List Int} (hf:Few N l) (hl:l.length <= 1000000000000) (hT:T.length <= 4611686018427387904) (hN2:T.length < N):∀ (m k:Nat) (out:List Int),k <= l.length->l.length - k < m->out.length <= k ->
  L_ref26_Done_0 N m l ch (k:Int) T a1 a2 a3 x a5 p e out=some (out ++ sel (fun d=>decide (d.1 ∈ T) || (ch && decide (x ∈ d.2.2))) (l.drop k),(p,0))
 | 0,_,_,_,h,_=>absurd h (Nat.not_lt_zero _)
 | m + 1,k,out,h1,h,h2=>by
  show B_ref26_Done_0 N (L_ref26_Done_0 N m) l ch _ T a1 a2 a3 x a5 p e out=_
  unfold B_ref26_Done_0
  by_cases hlt:k < l.length
  ·have hm:=List.getElem_mem hlt
   have ho:=hf.of _ hm
   rw [lt_t hlt,q_if1,q_get (getn hlt),List.drop_eq_getElem_cons hlt,hasR_eq hT hN2]
   simp only [q_bd]
   rw [q_get (getn hlt),hasR_eq ho.2 ho.1]
   simp only [q_bd]
   have e0:sel (fun d=>decide (d.1 ∈ T) || (ch && decide (x ∈ d.2.2))) (l[k] :: l.drop (k + 1))=(if (decide (l[k].1 ∈ T) || (ch && decide (x ∈ l[k].2.2)))=true then [l[k].1] else []) ++ sel (fun d=>decide (d.1 ∈ T) || (ch && decide (x ∈ d.2.2))) (l.drop (k + 1)):=by
    unfold sel
    rw [List.filter_cons]
    split <;> simp [ids]
   rw [e0]
   have e1:(if? (decide (l[k].1 ∈ T)) (gl? e.length e (gl? out.length out (some (l,ch,(k:Int),true,T,a1,a2,a3,x,a5,p,e,out)))) (if? ch (gl? e.length e (gl? out.length out (some (l,ch,(k:Int),decide (x ∈ l[k].2.2),T,a1,a2,a3,x,a5,p,e,out)))) (gl? e.length e (gl? out.length out (some (l,ch,(k:Int),false,T,a1,a2,a3,x,a5,p,e,out))))))=some (l,ch,(k:Int),(decide (l[k].1 ∈ T) || (ch && decide (x ∈ l[k].2.2))),T,a1,a2,a3,x,a5,p,e,out):=by
    simp only [q_gl]
    cases decide (l[k].1 ∈ T) <;> cases ch <;> rfl
   rw [e1]
   simp only [q_bd]
   cases hb:(decide (l[k].1 ∈ T) || (ch && decide (x ∈ l[k].2.2))) with
   | true =>
    simp only [q_if1,if_true]
    rw [q_get (getn hlt),q_gl,q_gdT (by simp;omega)]
    simp only [q_gl,q_bd]
    rw [q_ck (by omega) (by omega),show ((k:Int) + 1)=((k + 1:Nat):Int) by omega,doneR_loop hf hl hT hN2 m (k + 1) (out ++ [l[k].1]) (by omega) (by omega) (by simp;omega)]
    simp
   | false =>
    simp only [q_if0,q_gl,Bool.false_eq_true,if_false,q_bd]
    rw [q_ck (by omega) (by omega),show ((k:Int) + 1)=((k + 1:Nat):Int) by omega,doneR_loop hf hl hT hN2 m (k + 1) out (by omega) (by omega) (by omega)]
    simp
  ·rw [lt_f hlt,q_if0,List.drop_of_length_le (by omega),q_gl]
   simp [sel,ids]
theorem nextF_ok {l:List De} {T:List Int} {p:Int} (h:(nextF l T p).2=0):chk l=0/\T.Pairwise (· < ·)/\∀ x ∈ T,x ∈ ids l:=by
 unfold nextF at h
 split at h
 ·rename_i hc
  exact absurd h hc
 ·rename_i hc
  have hc:chk l=0:=by omega
  split at h
  ·cases h
  ·rename_i hn
   refine ⟨hc,asc_iff.1 (by cases ha:asc T with | true=>rfl | false=>exact absurd (.inl ha) hn),fun x hx=>?_⟩
   cases hk:(T.all fun i=>decide (i ∈ ids l)) with
   | false=>exact absurd (.inr hk) hn
   | true=>exact of_decide_eq_true (List.all_eq_true.1 hk x hx)
theorem doneR_eq {N:Nat} {l:List De} (hf:Few N l) (hk:kOk l) (hl:l.length <= 1000000000000) {T:List Int} {p:Int} {ch:Bool} (hT:T.length <= 4611686018427387904) (hN:T.length < N):G_ref26_Done N l (T,p) ch=some (doneF l T p ch):=by
 unfold G_ref26_Done doneF
 simp only
 rw [show G_ref26_Next N l (T,p)=some (nextF l T p) from nextR_eq hf hk hT hN]
 simp only [q_bd]
 by_cases h:(nextF l T p).2=0
 ·obtain ⟨hc,hp,hm⟩:=nextF_ok h
  have hs:=chk_srt hc
  rw [show ((nextF l T p).2 != 0)=false by simpa using h,q_if0,if_neg (fun e=>e h)]
  have:=doneR_loop (x:=(nextF l T p).1) (p:=(nextF l T p).1) (a1:=p) (a2:=0) (a3:=0) (a5:=(nextF l T p).2) (ch:=ch) (e:=[]) hf hl hT hN N 0 [] (Nat.zero_le _) (by have:=hf.len;omega) (Nat.le_refl _)
  rw [List.drop_zero,List.nil_append] at this
  refine Eq.trans this ?_
  cases ch with
  | false =>
   rw [if_neg Bool.false_ne_true]
   refine congrArg (fun z=>some (z,((nextF l T p).1,(0:Int)))) (asc_ext (sel_srt hs) hp fun x=>?_)
   rw [mem_sel]
   constructor
   ·rintro ⟨d,_,q,rfl⟩;simpa using q
   ·intro q
    obtain ⟨d,hd,rfl⟩:=List.mem_map.1 (hm x q)
    exact ⟨d,hd,by simpa using q,rfl⟩
  | true =>
   rw [if_pos rfl]
   obtain ⟨c1,c2⟩:=compact_spec (srt_sorted (T ++ onIt (nextF l T p).1 l))
   refine congrArg (fun z=>some (z,((nextF l T p).1,(0:Int)))) (asc_ext (sel_srt hs) c1 fun x=>?_)
   rw [c2,(srt_perm _).mem_iff,List.mem_append,mem_sel]
   unfold onIt
   rw [List.mem_map]
   constructor
   ·rintro ⟨d,hd,q,rfl⟩
    rw [Bool.or_eq_true,decide_eq_true_eq,Bool.true_and] at q
    rcases q with q | q
    ·exact .inl q
    ·exact .inr ⟨d,List.mem_filter.2 ⟨hd,q⟩,rfl⟩
   ·rintro (q | ⟨d,hd,rfl⟩)
    ·obtain ⟨d,hd,rfl⟩:=List.mem_map.1 (hm x q)
     exact ⟨d,hd,by rw [decide_eq_true q];rfl,rfl⟩
    ·obtain ⟨hd,q⟩:=List.mem_filter.1 hd
     exact ⟨d,hd,by rw [q,Bool.true_and,Bool.or_true],rfl⟩
 ·rw [show ((nextF l T p).2 != 0)=true by simpa using h,if_pos h];rfl
theorem equal_loop {a:List Int} (hl:a.length <= 4611686018427387904):∀ (m k:Nat),k <= a.length->a.length - k < m->L_slices_Equal_int_int_0 m a a ((a.length:Nat):Int) (k:Int)=some true
 | 0,_,_,h=>absurd h (Nat.not_lt_zero _)
 | m + 1,k,h1,h=>by
  show B_slices_Equal_int_int_0 (L_slices_Equal_int_int_0 m) a a _ _=_
  unfold B_slices_Equal_int_int_0
  by_cases hlt:k < a.length
  ·rw [lt_t hlt,q_if1,q_get (getn hlt),q_get (getn hlt),show (a[k] != a[k])=false by simp,q_if0,q_ck (by omega) (by omega),show ((k:Int) + 1)=((k + 1:Nat):Int) by omega]
   exact equal_loop hl m (k + 1) (by omega) (by omega)
  ·rw [lt_f hlt,q_if0]
theorem equal_self {N:Nat} {a:List Int} (hl:a.length <= 4611686018427387904) (hN:a.length < N):G_slices_Equal_int_int N a a=some true:=by
 unfold G_slices_Equal_int_int
 rw [show (((a.length:Nat):Int) != ((a.length:Nat):Int))=false by simp,q_if0]
 exact equal_loop hl N 0 (Nat.zero_le _) (by omega)
theorem fewS_eq {N:Nat} (hN:2010 < N) (l:List De) (cs:List Ch):∃ b,G_law26_few N l cs=some b/\(b=true->(∀ d ∈ l,smallD d)/\l.length <= 2010/\(l.length <= 16\/2000 < l.length)/\cs.length <= 8):=by
 unfold G_law26_few
 obtain ⟨b,hb,hs⟩:=few_eq hN l 16
 rw [hb]
 simp only [q_bd]
 cases b with
 | false=>exact ⟨false,rfl,fun e=>by cases e⟩
 | true =>
  refine ⟨_,rfl,fun e=>⟨hs rfl,?_,?_,by have:=of_decide_eq_true e;omega⟩⟩
  ·unfold G_ref26_Few at hb
   by_cases c1:((l.length:Nat):Int) > 16
   ·rw [decide_eq_true c1] at hb
    by_cases c2:((l.length:Nat):Int) <= 2000
    ·rw [decide_eq_true c2] at hb;simp at hb
    ·rw [decide_eq_false c2] at hb
     by_cases c3:((l.length:Nat):Int) > 2010
     ·rw [decide_eq_true c3] at hb;simp at hb
     ·omega
   ·omega
  ·unfold G_ref26_Few at hb
   by_cases c1:((l.length:Nat):Int) > 16
   ·rw [decide_eq_true c1] at hb
    by_cases c2:((l.length:Nat):Int) <= 2000
    ·rw [decide_eq_true c2] at hb;simp at hb
    ·omega
   ·omega
theorem sanity_tz:G_law26_sanity 3000=some true:=by kernel_rfl
theorem wavesS_true (l:List De) (cs:List Ch) (id:Int) (T:List Int) (p:Int) (ch:Bool) (hk:kOk l):G_law26_LineageWavesAsSpecified 3000 l (cs,(id,(T,p))) ch=some true:=by
 unfold G_law26_LineageWavesAsSpecified
 obtain ⟨b,hb,hs⟩:=fewS_eq (N:=3000) (by omega) l cs
 rw [hb]
 simp only [q_bd,q_ifn]
 cases b with
 | false =>
  rw [q_if0]
  simp only [q_bd,q_if1]
  rw [sanity_tz];rfl
 | true =>
  obtain ⟨s1,s2,s3,s4⟩:=hs rfl
  rw [q_if1]
  simp only [q_bd]
  by_cases c:((T.length:Nat):Int) > 20
  ·rw [decide_eq_true c,q_if1,sanity_tz];rfl
  ·rw [decide_eq_false c,q_if0]
   have hf:Few 3000 l:=few_of (by omega) s2 s1
   rw [begin_eq hf (by omega) (by omega) (by omega),beginR_eq hf hk (by omega) (by omega) (by omega),next_eq hf (by omega) (by omega),nextR_eq hf hk (by omega) (by omega),done_eq hf (by omega) (by omega) (by omega),doneR_eq hf hk (by omega) (by omega) (by omega)]
   simp only [q_bd,bne_self_eq_false,q_if0]
   have e1:(if chk l=0 then (tids cs l,((0:Int),(0:Int))) else ([],(0,chk l))).1.length <= l.length:=by
    split
    ·unfold tids
     rw [List.length_map];exact List.length_filter_le _ _
    ·simp
   rw [equal_self (by omega) (by omega)]
   simp only [q_bd,Bool.not_true,q_if0,bne_self_eq_false,sanity_tz,q_if1,beq_self_eq_true]
   have e2:(doneF l T p ch).1.length <= l.length + T.length:=by
    show (if (nextF l T p).2 ≠ 0 then (([]:List Int),((0:Int),(nextF l T p).2)) else if ch=true then (Go.Lib.compact (srt (T ++ onIt (nextF l T p).1 l)),((nextF l T p).1,(0:Int))) else (T,((nextF l T p).1,(0:Int)))).1.length <= _
    by_cases hq:(nextF l T p).2 ≠ 0
    ·rw [if_pos hq];simp
    ·rw [if_neg hq]
     by_cases hch:ch=true
     ·rw [if_pos hch]
      have h1:=compactUpTo_len (d:=(srt (T ++ onIt (nextF l T p).1 l)).toArray) (srt (T ++ onIt (nextF l T p).1 l)).toArray.size
      have h2:(srt (T ++ onIt (nextF l T p).1 l)).length=T.length + (onIt (nextF l T p).1 l).length:=by rw [(srt_perm _).length_eq,List.length_append]
      have h3:=onIt_len (nextF l T p).1 l
      have h4:(Go.Lib.compact (srt (T ++ onIt (nextF l T p).1 l))).length <= (srt (T ++ onIt (nextF l T p).1 l)).length:=by
       unfold Go.Lib.compact
       simpa using h1
      exact Nat.le_trans h4 (by omega)
     ·rw [if_neg hch];simp
   rw [equal_self (by omega) (by omega)]
   simp only [q_bd,q_if1]
end Go.Proofs.Tryz

