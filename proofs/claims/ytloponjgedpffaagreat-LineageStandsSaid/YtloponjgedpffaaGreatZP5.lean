/- Texts of this claim. -/
import Derived.Test.YtloponjgedpffaaGreatLZ5
import Derived.Test.YtloponjgedpffaaGreatYB
set_option linter.all false
set_option linter.unusedSimpArgs false
set_option linter.unusedVariables false
set_option synthInstance.maxSize 100000000
set_option synthInstance.maxHeartbeats 4000000
set_option maxRecDepth 100000
namespace Go.Proofs.Tryz
open Go.Eng Go.RowKit
abbrev Rd:=Int × Int × Int × Int
abbrev De:=Int × List Rd × List Int
abbrev Ch:=Int × Int × Int × Int
theorem lt_t {a b:Nat} (h:a < b):decide ((a:Int) < ((b:Nat):Int))=true:=decide_eq_true (by omega)
theorem lt_f {a b:Nat} (h:¬ a < b):decide ((a:Int) < ((b:Nat):Int))=false:=decide_eq_false (by omega)
theorem getn {α:Type} {l:List α} {k:Nat} (h:k < l.length):l[k]?=some l[k]:=List.getElem?_eq_getElem h
def asc:List Int->Bool
 | []=>true
 | [_]=>true
 | a :: b :: r=>!decide (b <= a) && asc (b :: r)
theorem asc_loop {l:List Int} (hl:l.length <= 4611686018427387904):∀ (m k:Nat),1 <= k->l.length - k < m->L_lineage_ascends_0 m l (k:Int)=some (asc (l.drop (k - 1)))
 | 0,_,_,h=>absurd h (Nat.not_lt_zero _)
 | m + 1,k,h1,h=>by
  show B_lineage_ascends_0 (L_lineage_ascends_0 m) l _=_
  unfold B_lineage_ascends_0
  by_cases hlt:k < l.length
  ·have e:((k:Int) - 1).toNat=k - 1:=by omega
   rw [lt_t hlt,q_if1,q_get (getn hlt),q_ck (by omega) (by omega),q_geti (by omega) (by rw [e];exact getn (by omega)),q_if]
   rw [List.drop_eq_getElem_cons (show k - 1 < l.length by omega),show k - 1 + 1=k by omega,List.drop_eq_getElem_cons hlt,asc]
   by_cases hc:l[k] <= l[k - 1]
   ·rw [if_pos (decide_eq_true hc),decide_eq_true hc];rfl
   ·rw [if_neg (by simpa using hc),decide_eq_false hc,q_ck (by omega) (by omega)]
    have:=asc_loop hl m (k + 1) (by omega) (by omega)
    rw [show ((k:Int) + 1)=((k + 1:Nat):Int) by omega,this,show k + 1 - 1=k by omega,List.drop_eq_getElem_cons hlt];rfl
  ·rw [lt_f hlt,q_if0]
   have:(l.drop (k - 1)).length <= 1:=by rw [List.length_drop];omega
   match hd:l.drop (k - 1),this with
   | [],_=>rfl
   | [_],_=>rfl
theorem ascends_eq {N:Nat} {l:List Int} (hl:l.length <= 4611686018427387904) (hN:l.length < N):G_lineage_ascends N l=some (asc l):=by
 unfold G_lineage_ascends
 exact asc_loop hl N 1 (Nat.le_refl _) (by omega)
theorem asc_iff:∀ {l:List Int},asc l=true ↔ l.Pairwise (· < ·)
 | []=>by simp [asc]
 | [_]=>by simp [asc]
 | a :: b :: r=>by
  have ih:=asc_iff (l:=b :: r)
  unfold asc
  rw [Bool.and_eq_true,ih,List.pairwise_cons (a:=a)]
  constructor
  ·rintro ⟨h1,h2⟩
   have h1:a < b:=by simpa using h1
   refine ⟨fun x hx=>?_,h2⟩
   rcases List.mem_cons.1 hx with rfl | hx
   ·exact h1
   ·exact Int.lt_trans h1 (List.rel_of_pairwise_cons h2 hx)
  ·rintro ⟨h1,h2⟩
   exact ⟨by simpa using h1 b List.mem_cons_self,h2⟩
def badR (x:Rd):Bool:=decide (x.1 < 0) || decide (x.1 ≥ 40) || decide (x.2.2.1 < 0) || decide (x.2.2.2 <= x.2.2.1) || decide (x.2.2.2 > 1402560) || decide (x.2.1 <= 0) || (bits .andNot .i64 x.2.1 15) != 0
def ofOk (id:Int) (l:List Int):Bool:=match l with
 | []=>true
 | a :: r=>decide (a ≥ 1) && decide ((a :: r).getLast (by simp) < id)
def rightB (d:De):Bool:=!(decide (d.1 < 1) || decide (d.1 > 1099511627776) || decide ((d.2.1.length:Int) > 40) || !asc d.2.2) && !d.2.1.any badR && ofOk d.1 d.2.2
theorem right_loop {id:Int} {rs:List Rd} {of:List Int} (hr:rs.length <= 4611686018427387904) (ho:of.length <= 4611686018427387904):∀ (m k:Nat),k <= rs.length->rs.length - k < m ->
  L_lineage_right_0 m rs ((rs.length:Nat):Int) (k:Int) id rs of=some (!(rs.drop k).any badR && ofOk id of)
 | 0,_,_,h=>absurd h (Nat.not_lt_zero _)
 | m + 1,k,h1,h=>by
  show B_lineage_right_0 (L_lineage_right_0 m) rs _ _ _ rs of=_
  unfold B_lineage_right_0
  by_cases hlt:k < rs.length
  ·rw [lt_t hlt,q_if1,q_get (getn hlt),List.drop_eq_getElem_cons hlt,List.any_cons]
   generalize hx:rs[k]=x
   have main:bd? (if? (decide (x.1 < 0)) (some (rs,((rs.length:Nat):Int),(k:Int),true,id,rs,of)) (if? (decide (x.1 ≥ 40)) (some (rs,((rs.length:Nat):Int),(k:Int),true,id,rs,of)) (if? (decide (x.2.2.1 < 0)) (some (rs,((rs.length:Nat):Int),(k:Int),true,id,rs,of)) (if? (decide (x.2.2.2 <= x.2.2.1)) (some (rs,((rs.length:Nat):Int),(k:Int),true,id,rs,of)) (if? (decide (x.2.2.2 > 1402560)) (some (rs,((rs.length:Nat):Int),(k:Int),true,id,rs,of)) (if? (decide (x.2.1 <= 0)) (some (rs,((rs.length:Nat):Int),(k:Int),true,id,rs,of)) (some (rs,((rs.length:Nat):Int),(k:Int),((bits .andNot .i64 x.2.1 15) != 0),id,rs,of)))))))) (fun w:List Rd × Int × Int × Bool × Int × List Rd × List Int=>if? w.2.2.2.1 (some false) (ck .i64 (w.2.2.1 + 1) (L_lineage_right_0 m w.1 w.2.1 (w.2.2.1 + 1) w.2.2.2.2.1 w.2.2.2.2.2.1 w.2.2.2.2.2.2))) =
     if? (badR x) (some false) (ck .i64 ((k:Int) + 1) (L_lineage_right_0 m rs ((rs.length:Nat):Int) ((k:Int) + 1) id rs of)):=by
    unfold badR
    cases decide (x.1 < 0) <;> cases decide (x.1 ≥ 40) <;> cases decide (x.2.2.1 < 0) <;> cases decide (x.2.2.2 <= x.2.2.1) <;> cases decide (x.2.2.2 > 1402560) <;> cases decide (x.2.1 <= 0) <;> rfl
   refine main.trans ?_
   cases hb:badR x with
   | true=>rfl
   | false =>
    rw [q_if0,q_ck (by omega) (by omega),show ((k:Int) + 1)=((k + 1:Nat):Int) by omega,right_loop hr ho m (k + 1) (by omega) (by omega)]
    rfl
  ·rw [lt_f hlt,q_if0,List.drop_of_length_le (by omega)]
   cases of with
   | nil=>rfl
   | cons a r =>
    have e0:((((a :: r).length:Nat):Int) == 0)=false:=by
     have:(((a :: r).length:Nat):Int) ≠ 0:=by simp;omega
     simpa using this
    rw [e0,q_if0,q_geti (x:=a) (by omega) rfl]
    have e1:((((a :: r).length:Nat):Int) - 1).toNat=(a :: r).length - 1:=by omega
    have hlen:(a :: r).length=r.length + 1:=rfl
    simp only [ofOk]
    by_cases ha:a ≥ 1
    ·rw [decide_eq_true ha,q_if1,q_ck (by omega) (by omega),q_geti (x:=(a :: r).getLast (by simp)) (by omega) (by rw [e1,getn (by omega),List.getLast_eq_getElem])]
     rfl
    ·rw [decide_eq_false ha,q_if0];rfl
theorem right_eq {N:Nat} {d:De} (hr:d.2.1.length <= 4611686018427387904) (ho:d.2.2.length <= 4611686018427387904) (h1:d.2.1.length < N) (h2:d.2.2.length < N):G_lineage_right N d=some (rightB d):=by
 unfold G_lineage_right rightB
 rw [ascends_eq ho h2]
 have hl:=right_loop (id:=d.1) (of:=d.2.2) hr ho N 0 (Nat.zero_le _) (by omega)
 rw [List.drop_zero] at hl
 cases decide (d.1 < 1) <;> cases decide (d.1 > 1099511627776) <;> cases decide ((d.2.1.length:Int) > 40) <;> cases asc d.2.2 <;> first | rfl | exact hl
abbrev ids (l:List De):List Int:=l.map (·.1)
abbrev Srt (l:List De):Prop:=(ids l).Pairwise (· < ·)
def cnt:List De->Int->Nat
 | [],_=>0
 | d :: r,id=>if d.1 < id then cnt r id + 1 else 0
theorem cnt_le:∀ (l:List De) (id:Int),cnt l id <= l.length
 | [],_=>Nat.le_refl _
 | d :: r,id=>by
  unfold cnt
  have:=cnt_le r id
  split <;> simp <;> omega
theorem cnt_lt {id:Int}:∀ {l:List De},Srt l->∀ (i:Nat) (h:i < l.length),l[i].1 < id ↔ i < cnt l id
 | [],_,i,h=>by cases h
 | d :: r,hs,i,h=>by
  have hs':(d.1 :: ids r).Pairwise (· < ·):=hs
  unfold cnt
  by_cases hd:d.1 < id
  ·rw [if_pos hd]
   cases i with
   | zero=>simpa using hd
   | succ i =>
    have:=cnt_lt (id:=id) hs'.tail i (by simpa using h)
    rw [List.getElem_cons_succ,this];omega
  ·rw [if_neg hd]
   cases i with
   | zero=>simpa using hd
   | succ i =>
    have hlt:i < r.length:=by simpa using h
    have:d.1 < r[i].1:=List.rel_of_pairwise_cons hs' (List.mem_map.2 ⟨r[i],List.getElem_mem hlt,rfl⟩)
    rw [List.getElem_cons_succ]
    constructor
    ·intro q;omega
    ·intro q;omega
theorem cnt_found {l:List De} (hs:Srt l) {id:Int}:(∃ h:cnt l id < l.length,l[cnt l id].1=id) ↔ id ∈ ids l:=by
 constructor
 ·rintro ⟨h,e⟩
  exact List.mem_map.2 ⟨_,List.getElem_mem h,e⟩
 ·intro h
  obtain ⟨d,hd,rfl⟩:=List.mem_map.1 h
  obtain ⟨j,hj,rfl⟩:=List.getElem_of_mem hd
  have h1:¬ j < cnt l l[j].1:=fun q=>by
   have:=(cnt_lt hs j hj).2 q;omega
  have h2:∀ i,(hi:i < j)->i < cnt l l[j].1:=fun i hi=>(cnt_lt hs i (by omega)).1 (by
   have:=List.pairwise_iff_getElem.1 hs i j (by rw [List.length_map];omega) (by rw [List.length_map];omega) hi
   simpa using this)
  have h3:cnt l l[j].1=j:=by
   rcases Nat.lt_or_ge (cnt l l[j].1) j with q | q
   ·exact absurd (h2 _ q) (Nat.lt_irrefl _)
   ·omega
  exact ⟨by omega,by simp [h3]⟩
def cmp3 (a b:Int):Int:=if a < b then -1 else if a > b then 1 else 0
theorem compare_eq {N:Nat} {a b:Int}:G_cmp_Compare_int N a b=some (cmp3 a b):=by
 unfold G_cmp_Compare_int G_cmp_isNaN_int cmp3
 rw [show (a != a)=false by simp,show (b != b)=false by simp]
 simp only [q_bd,q_if0]
 by_cases h:a < b
 ·rw [decide_eq_true h,if_pos h];rfl
 ·rw [decide_eq_false h,if_neg h]
  by_cases h2:a > b
  ·rw [decide_eq_true h2,if_pos h2];rfl
  ·rw [decide_eq_false h2,if_neg h2];rfl
theorem at1_eq {N:Nat} {d:De} {id:Int}:G_lineage_at_1 N d id=some (cmp3 d.1 id):=by
 unfold G_lineage_at_1
 rw [compare_eq];rfl
theorem mid_eq {n:Nat} (h:n <= 9223372036854775807):(IntKind.wrap .i64 ((IntKind.wrap .u64 (n:Int)) / (2 ^ 1)))=((n / 2:Nat):Int):=by
 rw [show IntKind.wrap .u64 (n:Int)=(n:Int) by rw [IntKind.wrap_u64];omega,q_wrap (by omega) (by omega)];omega
theorem bs_loop {N:Nat} {l:List De} (hs:Srt l) (hl:l.length <= 4611686018427387904) {id:Int}:∀ (m lo hi:Nat),lo <= cnt l id->cnt l id <= hi->hi <= l.length->hi - lo < m ->
  L_slices_BinarySearchFunc_Derived_Derived_0 N m l id ((l.length:Nat):Int) (lo:Int) (hi:Int)=some (((cnt l id:Nat):Int),decide (id ∈ ids l))
 | 0,_,_,_,_,_,h=>absurd h (Nat.not_lt_zero _)
 | m + 1,lo,hi,h1,h2,h3,h=>by
  show B_slices_BinarySearchFunc_Derived_Derived_0 N (L_slices_BinarySearchFunc_Derived_Derived_0 N m) l id _ _ _=_
  unfold B_slices_BinarySearchFunc_Derived_Derived_0
  by_cases hlt:lo < hi
  ·rw [lt_t hlt,q_if1,q_ck (by omega) (by omega),show (lo:Int) + (hi:Int)=((lo + hi:Nat):Int) by omega,mid_eq (by omega)]
   have hm:(lo + hi) / 2 < l.length:=by omega
   rw [q_get (getn hm),at1_eq (d:=l[(lo + hi) / 2])]
   simp only [q_bd]
   have hc:=cnt_lt (id:=id) hs _ hm
   by_cases hlt2:l[(lo + hi) / 2].1 < id
   ·have:=hc.1 hlt2
    rw [show decide (cmp3 l[(lo + hi) / 2].1 id < 0)=true by unfold cmp3;rw [if_pos hlt2];rfl,q_if1,q_ck (by omega) (by omega),show (((lo + hi) / 2:Nat):Int) + 1=(((lo + hi) / 2 + 1:Nat):Int) by omega]
    exact bs_loop hs hl m _ hi (by omega) h2 h3 (by omega)
   ·have:¬ (lo + hi) / 2 < cnt l id:=fun q=>hlt2 (hc.2 q)
    rw [show decide (cmp3 l[(lo + hi) / 2].1 id < 0)=false by unfold cmp3;rw [if_neg hlt2];split <;> rfl,q_if0]
    exact bs_loop hs hl m lo _ h1 (by omega) (by omega) (by omega)
  ·have e:lo=cnt l id:=by omega
   rw [lt_f hlt,q_if0]
   have hf:=cnt_found hs (id:=id)
   by_cases hlen:lo < l.length
   ·rw [lt_t hlen,q_if1,q_get (getn hlen),at1_eq (d:=l[lo])]
    simp only [q_bd]
    have:(cmp3 l[lo].1 id == 0)=decide (id ∈ ids l):=by
     have hn:¬ l[lo].1 < id:=fun q=>by have:=(cnt_lt hs lo hlen).1 q;omega
     unfold cmp3
     rw [if_neg hn]
     by_cases hg:l[lo].1 > id
     ·rw [if_pos hg]
      have:¬ id ∈ ids l:=fun q=>by
       obtain ⟨_,q⟩:=hf.2 q
       simp only [<- e] at q;omega
      rw [decide_eq_false this];rfl
     ·rw [if_neg hg]
      have:id ∈ ids l:=hf.1 ⟨by omega,by simp only [<- e];omega⟩
      rw [decide_eq_true this];rfl
    rw [this,e]
   ·rw [lt_f hlen,q_if0]
    have:¬ id ∈ ids l:=fun q=>by obtain ⟨q,_⟩:=hf.2 q;omega
    rw [decide_eq_false this,e];rfl
theorem at_eq {N:Nat} {l:List De} (hs:Srt l) (hl:l.length <= 4611686018427387904) (hN:l.length < N) {id:Int}:G_lineage_at N l id=some (((cnt l id:Nat):Int),decide (id ∈ ids l)):=by
 unfold G_lineage_at G_slices_BinarySearchFunc_Derived_Derived
 have:=bs_loop (N:=N) hs hl (id:=id) N 0 l.length (Nat.zero_le _) (cnt_le _ _) (Nat.le_refl _) (by omega)
 rw [show ((0:Nat):Int)=0 from rfl] at this
 rw [this];rfl
theorem known_loop {N:Nat} {l:List De} (hs:Srt l) (hl:l.length <= 4611686018427387904) (hN:l.length < N) {is:List Int} (hi:is.length <= 4611686018427387904):∀ (m k:Nat),k <= is.length->is.length - k < m ->
  L_lineage_known_0 N m l is ((is.length:Nat):Int) (k:Int)=some ((is.drop k).all fun i=>decide (i ∈ ids l))
 | 0,_,_,h=>absurd h (Nat.not_lt_zero _)
 | m + 1,k,h1,h=>by
  show B_lineage_known_0 N (L_lineage_known_0 N m) l is _ _=_
  unfold B_lineage_known_0
  by_cases hlt:k < is.length
  ·rw [lt_t hlt,q_if1,q_get (getn hlt),at_eq hs hl hN,List.drop_eq_getElem_cons hlt,List.all_cons]
   simp only [q_bd]
   cases decide (is[k] ∈ ids l) with
   | false=>rfl
   | true =>
    show if? (!true) _ _=_
    rw [q_ifn,q_if1,q_ck (by omega) (by omega),show ((k:Int) + 1)=((k + 1:Nat):Int) by omega,known_loop hs hl hN hi m (k + 1) (by omega) (by omega)]
    rfl
  ·rw [lt_f hlt,q_if0,List.drop_of_length_le (by omega)];rfl
theorem known_eq {N:Nat} {l:List De} (hs:Srt l) (hl:l.length <= 4611686018427387904) (hN:l.length < N) {is:List Int} (hi:is.length <= 4611686018427387904) (hN2:is.length < N):G_lineage_known N l is=some (is.all fun i=>decide (i ∈ ids l)):=by
 unfold G_lineage_known
 have:=known_loop hs hl hN hi N 0 (Nat.zero_le _) (by omega)
 rw [List.drop_zero] at this
 exact this
def okD (pre:List De) (d:De):Bool:=(match pre.getLast? with | none=>true | some e=>!decide (d.1 <= e.1)) && rightB d && d.2.2.all fun i=>decide (i ∈ ids pre)
def okL:List De->List De->Bool
 | _,[]=>true
 | pre,d :: r=>okD pre d && okL (pre ++ [d]) r
structure Few (N:Nat) (l:List De):Prop where
 len:l.length < N
 big:l.length <= 4611686018427387904
 rd:∀ d ∈ l,d.2.1.length < N/\d.2.1.length <= 4611686018427387904
 of:∀ d ∈ l,d.2.2.length < N/\d.2.2.length <= 4611686018427387904
theorem srt_push {l:List De} {d:De} (hs:Srt l) (h:∀ e,l.getLast?=some e->e.1 < d.1):Srt (l ++ [d]):=by
 show (ids (l ++ [d])).Pairwise _
 rw [ids,List.map_append,List.pairwise_append]
 refine ⟨hs,by simp,fun a ha b hb=>?_⟩
 rw [List.map_singleton,List.mem_singleton] at hb
 subst hb
 obtain ⟨x,hx,rfl⟩:=List.mem_map.1 ha
 rcases List.eq_nil_or_concat l with rfl | ⟨l',e,rfl⟩
 ·cases hx
 ·rw [List.concat_eq_append] at *
  have he:=h e (by simp)
  rcases List.mem_append.1 hx with hx | hx
  ·have:(ids (l' ++ [e])).Pairwise (· < ·):=hs
   rw [ids,List.map_append,List.pairwise_append] at this
   exact Int.lt_trans (this.2.2 x.1 (List.mem_map.2 ⟨x,hx,rfl⟩) e.1 (by simp)) he
  ·rw [List.mem_singleton.1 hx];exact he
theorem check_loop {N:Nat} {l:List De} (hf:Few N l):∀ (m k:Nat),k <= l.length->l.length - k < m->Srt (l.take k) ->
  L_lineage_Check_0 N m l l ((l.length:Nat):Int) (k:Int)=some (if okL (l.take k) (l.drop k)=true then 0 else 1)
 | 0,_,_,h,_=>absurd h (Nat.not_lt_zero _)
 | m + 1,k,h1,h,hs=>by
  show B_lineage_Check_0 N (L_lineage_Check_0 N m) l l _ _=_
  unfold B_lineage_Check_0
  have hbig:=hf.big
  have hlen:=hf.len
  by_cases hlt:k < l.length
  ·rw [lt_t hlt,q_if1,q_get (getn hlt),List.drop_eq_getElem_cons hlt]
   have hm:=List.getElem_mem hlt
   have hd:=hf.rd _ hm
   have ho:=hf.of _ hm
   have htk:(l.take k).length=k:=by rw [List.length_take];omega
   have hr:G_lineage_right N (l[k].1,(l[k].2.1,l[k].2.2))=some (rightB l[k]):=right_eq (d:=l[k]) hd.2 ho.2 hd.1 ho.1
   have hk:G_lineage_known N (List.take ((k:Int).toNat - 0) (List.drop 0 l)) l[k].2.2=some (l[k].2.2.all fun i=>decide (i ∈ ids (l.take k))):=by
    rw [show (k:Int).toNat - 0=k by omega,List.drop_zero]
    exact known_eq hs (by omega) (by omega) ho.2 ho.1
   have rest:(bd? (G_lineage_right N (l[k].1,(l[k].2.1,l[k].2.2))) fun v9=>if? (!v9) (some (l,l,((l.length:Nat):Int),(k:Int),true)) (gd? (0 <= (k:Int)) (gd? (0 <= (k:Int).toNat) (gd? ((k:Int).toNat <= l.length) (bd? (G_lineage_known N (List.take ((k:Int).toNat - 0) (List.drop 0 l)) l[k].2.2) fun v10=>some (l,l,((l.length:Nat):Int),(k:Int),!v10)))))) =
     some (l,l,((l.length:Nat):Int),(k:Int),!(rightB l[k] && l[k].2.2.all fun i=>decide (i ∈ ids (l.take k)))):=by
    rw [hr,hk]
    simp only [q_bd]
    cases rightB l[k] with
    | false=>rfl
    | true=>rw [q_ifn,q_if1,q_gdT (by omega),q_gdT (by omega),q_gdT (by omega),Bool.true_and]
   have main:(if? (decide ((k:Int) > 0)) (ck .i64 ((k:Int) - 1) (get? l ((k:Int) - 1) fun x8=>if? (decide (l[k].1 <= x8.1)) (some (l,l,((l.length:Nat):Int),(k:Int),true)) (bd? (G_lineage_right N (l[k].1,(l[k].2.1,l[k].2.2))) fun v9=>if? (!v9) (some (l,l,((l.length:Nat):Int),(k:Int),true)) (gd? (0 <= (k:Int)) (gd? (0 <= (k:Int).toNat) (gd? ((k:Int).toNat <= l.length) (bd? (G_lineage_known N (List.take ((k:Int).toNat - 0) (List.drop 0 l)) l[k].2.2) fun v10=>some (l,l,((l.length:Nat):Int),(k:Int),!v10))))))))
      (bd? (G_lineage_right N (l[k].1,(l[k].2.1,l[k].2.2))) fun v9=>if? (!v9) (some (l,l,((l.length:Nat):Int),(k:Int),true)) (gd? (0 <= (k:Int)) (gd? (0 <= (k:Int).toNat) (gd? ((k:Int).toNat <= l.length) (bd? (G_lineage_known N (List.take ((k:Int).toNat - 0) (List.drop 0 l)) l[k].2.2) fun v10=>some (l,l,((l.length:Nat):Int),(k:Int),!v10))))))) =
     some (l,l,((l.length:Nat):Int),(k:Int),!okD (l.take k) l[k]):=by
    rw [rest]
    unfold okD
    by_cases hk0:k=0
    ·subst hk0;simp
    ·have e1:((k:Int) - 1).toNat=k - 1:=by omega
     have e2:(l.take k).getLast?=some l[k - 1]:=by
      rw [List.getLast?_eq_getElem?,htk,List.getElem?_take_of_lt (by omega),getn (by omega)]
     rw [decide_eq_true (show (k:Int) > 0 by omega),q_if1,q_ck (by omega) (by omega),q_geti (by omega) (by rw [e1];exact getn (by omega)),e2]
     dsimp only
     by_cases hc:l[k].1 <= l[k - 1].1
     ·rw [decide_eq_true hc];rfl
     ·rw [decide_eq_false hc];simp [Bool.and_assoc]
   rw [main]
   simp only [q_bd]
   rw [okL]
   cases hok:okD (l.take k) l[k] with
   | false=>rfl
   | true =>
    show if? (!true) _ _=_
    rw [q_ifn,q_if1,q_ck (by omega) (by omega),show ((k:Int) + 1)=((k + 1:Nat):Int) by omega,Bool.true_and]
    have e3:l.take k ++ [l[k]]=l.take (k + 1):=by rw [List.take_succ_eq_append_getElem hlt]
    rw [e3]
    refine check_loop hf m (k + 1) (by omega) (by omega) ?_
    rw [<- e3]
    refine srt_push hs fun e he=>?_
    unfold okD at hok
    rw [he] at hok
    simp only [Bool.and_eq_true,Bool.not_eq_true',decide_eq_false_iff_not] at hok
    omega
  ·rw [lt_f hlt,q_if0,List.drop_of_length_le (by omega)];rfl
def chk (l:List De):Int:=if l.length > 2000 then 2 else if okL [] l=true then 0 else 1
theorem check_eq {N:Nat} {l:List De} (hf:Few N l):G_lineage_Check N l=some (chk l):=by
 unfold G_lineage_Check chk
 by_cases h:l.length > 2000
 ·rw [if_pos h,decide_eq_true (show ((l.length:Nat):Int) > 2000 by omega)];rfl
 ·rw [if_neg h,decide_eq_false (show ¬ ((l.length:Nat):Int) > 2000 by omega),q_if0]
  have:=check_loop hf N 0 (Nat.zero_le _) (by have:=hf.len;omega) (by simp [Srt])
  simpa using this
def tR (c:Ch) (x:Rd):Bool:=(x.1 == c.2.1) && ((bits .and .i64 (x.2.1 / (2 ^ c.1.toNat)) 1) == 1) && decide ((Max.max x.2.2.1 c.2.2.1) < (Min.min x.2.2.2 c.2.2.2))
def tch (d:De) (c:Ch):Bool:=!decide (c.1 < 0) && !decide (c.1 > 3) && d.2.1.any (tR c)
abbrev MB:=List (Int × Bool)
def has (mp:MB) (x:Int):Bool:=(mGet mp x).getD false
def clo:List De->MB->List Int
 | [],_=>[]
 | d :: r,mp=>if (has mp d.1 || d.2.2.any (has mp))=true then d.1 :: clo r (mSet mp d.1 true) else clo r mp
theorem idxI_loop {N:Nat} {is:List Int} {mp:MB} (hl:is.length <= 4611686018427387904):∀ (m k:Nat),k <= is.length->is.length - k < m ->
  ∃ r:Int,L_slices_IndexFunc_int_int_0 N m is ((is.length:Nat):Int) (k:Int) mp=some (r,mp)/\decide (r ≥ 0)=(is.drop k).any (has mp)
 | 0,_,_,h=>absurd h (Nat.not_lt_zero _)
 | m + 1,k,h1,h=>by
  show ∃ r:Int,B_slices_IndexFunc_int_int_0 N (L_slices_IndexFunc_int_int_0 N m) is _ _ _=_/\_
  unfold B_slices_IndexFunc_int_int_0
  by_cases hlt:k < is.length
  ·rw [lt_t hlt,q_if1,q_get (getn hlt),List.drop_eq_getElem_cons hlt,List.any_cons]
   show ∃ r:Int,if? (has mp is[k]) (some ((k:Int),mp)) (ck .i64 ((k:Int) + 1) (L_slices_IndexFunc_int_int_0 N m is ((is.length:Nat):Int) ((k:Int) + 1) mp))=some (r,mp)/\_
   cases hb:has mp is[k] with
   | true=>exact ⟨k,rfl,by simp⟩
   | false =>
    obtain ⟨r,e1,e2⟩:=idxI_loop (N:=N) (mp:=mp) hl m (k + 1) (by omega) (by omega)
    exact ⟨r,by rw [q_if0,q_ck (by omega) (by omega),show ((k:Int) + 1)=((k + 1:Nat):Int) by omega];exact e1,by rw [e2];rfl⟩
  ·exact ⟨-1,by rw [lt_f hlt,q_if0],by rw [List.drop_of_length_le (by omega)];rfl⟩
theorem cfI_eq {N:Nat} {is:List Int} {mp:MB} (hl:is.length <= 4611686018427387904) (hN:is.length < N):G_slices_ContainsFunc_int_int N is mp=some (is.any (has mp),mp):=by
 unfold G_slices_ContainsFunc_int_int G_slices_IndexFunc_int_int
 obtain ⟨r,e1,e2⟩:=idxI_loop (N:=N) (mp:=mp) hl N 0 (Nat.zero_le _) (by omega)
 have e1:L_slices_IndexFunc_int_int_0 N N is ((is.length:Nat):Int) 0 mp=some (r,mp):=e1
 rw [e1]
 show some (decide (r ≥ 0),mp)=_
 rw [e2];rfl
theorem clo_loop {N:Nat} {l:List De} (hf:Few N l) (hl:l.length <= 17592186044415):∀ (m k:Nat) (out:List Int) (mp:MB),k <= l.length->l.length - k < m->out.length <= k ->
  L_lineage_closure_0 N m l ((l.length:Nat):Int) (k:Int) out mp=some (out ++ clo (l.drop k) mp)
 | 0,_,_,_,_,h,_=>absurd h (Nat.not_lt_zero _)
 | m + 1,k,out,mp,h1,h,h2=>by
  show B_lineage_closure_0 N (L_lineage_closure_0 N m) l _ _ _ _=_
  unfold B_lineage_closure_0
  by_cases hlt:k < l.length
  ·have hm:=List.getElem_mem hlt
   have ho:=hf.of _ hm
   rw [lt_t hlt,q_if1,q_get (getn hlt),List.drop_eq_getElem_cons hlt,cfI_eq ho.2 ho.1]
   have main:(if? (((mGet mp l[k].1)).getD false) (gl? out.length out (some (l,((l.length:Nat):Int),(k:Int),true,out,l[k].1,l[k].2.1,l[k].2.2,mp))) (bd? (some (l[k].2.2.any (has mp),mp)) fun v10=>gl? out.length out (some (l,((l.length:Nat):Int),(k:Int),v10.1,out,l[k].1,l[k].2.1,l[k].2.2,v10.2)))) =
     some (l,((l.length:Nat):Int),(k:Int),(has mp l[k].1 || l[k].2.2.any (has mp)),out,l[k].1,l[k].2.1,l[k].2.2,mp):=by
    show if? (has mp l[k].1) _ _=_
    cases has mp l[k].1 with
    | true=>rw [q_if1,q_gl];rfl
    | false =>
     rw [q_if0]
     simp only [q_bd]
     rw [q_gl];rfl
   rw [main]
   simp only [q_bd]
   rw [clo]
   cases hb:(has mp l[k].1 || l[k].2.2.any (has mp)) with
   | true =>
    rw [q_if1,q_gl,q_gdT (by simp;omega),q_gl]
    simp only [q_bd,if_true]
    rw [q_ck (by omega) (by omega),q_gl,show ((k:Int) + 1)=((k + 1:Nat):Int) by omega,clo_loop hf hl m (k + 1) (out ++ [l[k].1]) (mSet mp l[k].1 true) (by omega) (by omega) (by simp;omega)]
    simp
   | false =>
    rw [q_if0,q_gl]
    simp only [q_bd,Bool.false_eq_true,if_false]
    rw [q_ck (by omega) (by omega),q_gl,show ((k:Int) + 1)=((k + 1:Nat):Int) by omega,clo_loop hf hl m (k + 1) out mp (by omega) (by omega) (by omega)]
  ·rw [lt_f hlt,q_if0,List.drop_of_length_le (by omega),q_gl]
   simp [clo]
theorem closure_eq {N:Nat} {l:List De} (hf:Few N l) (hl:l.length <= 17592186044415) {mp:MB}:G_lineage_closure N l mp=some (clo l mp):=by
 unfold G_lineage_closure
 have:=clo_loop hf hl N 0 [] mp (Nat.zero_le _) (by have:=hf.len;omega) (Nat.le_refl _)
 simpa using this
def inM (mp:MB) (is:List Int):MB:=is.foldl (fun mp i=>mSet mp i true) mp
def cntI:List Int->Int->Nat
 | [],_=>0
 | a :: r,x=>if a < x then cntI r x + 1 else 0
theorem filter_gt:∀ {l:List Int},l.Pairwise (· < ·)->∀ p:Int,l.filter (fun x=>decide (p < x))=l.drop (cntI l p + if p ∈ l then 1 else 0)
 | [],_,p=>rfl
 | a :: r,hs,p=>by
  have ih:r.filter (fun x=>decide (p < x))=r.drop (cntI r p + if p ∈ r then 1 else 0):=filter_gt (l:=r) (List.Pairwise.of_cons hs) p
  have hr:∀ b ∈ r,a < b:=fun b hb=>List.rel_of_pairwise_cons hs hb
  rw [List.filter_cons]
  unfold cntI
  by_cases h1:a < p
  ·rw [if_neg (by simp;omega),if_pos h1,ih]
   have:(p ∈ a :: r) ↔ p ∈ r:=by
    rw [List.mem_cons]
    exact ⟨fun h=>h.resolve_left (by omega),.inr⟩
   simp only [this]
   rw [show cntI r p + 1 + (if p ∈ r then 1 else 0)=(cntI r p + if p ∈ r then 1 else 0) + 1 by omega,List.drop_succ_cons]
  ·rw [if_neg h1]
   by_cases h2:a=p
   ·subst h2
    rw [if_neg (by simp),if_pos List.mem_cons_self]
    show _=r
    rw [List.filter_eq_self]
    intro b hb
    exact decide_eq_true (hr b hb)
   ·have hp:p ∉ a :: r:=fun h=>by
     rcases List.mem_cons.1 h with e | e
     ·exact h2 e.symm
     ·have:=hr p e;omega
    rw [if_pos (by simp;omega),if_neg hp]
    show a :: _=a :: r
    congr 1
    rw [List.filter_eq_self]
    intro b hb
    have:=hr b hb
    exact decide_eq_true (by omega)
theorem okL_srt:∀ {r pre:List De},Srt pre->okL pre r=true->Srt (pre ++ r)
 | [],pre,hs,_=>by rw [List.append_nil];exact hs
 | d :: r,pre,hs,h=>by
  rw [okL,Bool.and_eq_true] at h
  have:Srt (pre ++ [d]):=srt_push hs fun e he=>by
   have h1:=h.1
   unfold okD at h1
   rw [he] at h1
   simp only [Bool.and_eq_true,Bool.not_eq_true',decide_eq_false_iff_not] at h1
   omega
  have:=okL_srt this h.2
  rwa [List.append_assoc] at this
theorem chk_ok {l:List De} (h:chk l=0):okL [] l=true:=by
 unfold chk at h
 split at h
 ·cases h
 ·split at h
  ·assumption
  ·cases h
theorem chk_srt {l:List De} (h:chk l=0):Srt l:=okL_srt (pre:=[]) List.Pairwise.nil (chk_ok h)
def nextF (l:List De) (T:List Int) (p:Int):Int × Int :=
 if chk l ≠ 0 then (0,chk l) else if asc T=false\/(T.all fun i=>decide (i ∈ ids l))=false then (0,1) else if p ≠ 0/\p ∉ T then (0,1) else
  match T.drop (cntI T p + if p ∈ T then 1 else 0) with
  | []=>(0,8)
  | x :: _=>(x,0)
theorem idx_loop {is:List Int} {x:Int} (hl:is.length <= 4611686018427387904):∀ (m k:Nat),k <= is.length->is.length - k < m ->
  ∃ r:Int,L_slices_Index_int_int_0 m is x ((is.length:Nat):Int) (k:Int)=some r/\decide (r ≥ 0)=decide (x ∈ is.drop k)
 | 0,_,_,h=>absurd h (Nat.not_lt_zero _)
 | m + 1,k,h1,h=>by
  show ∃ r:Int,B_slices_Index_int_int_0 (L_slices_Index_int_int_0 m) is x _ _=_/\_
  unfold B_slices_Index_int_int_0
  by_cases hlt:k < is.length
  ·rw [lt_t hlt,q_if1,q_get (getn hlt),List.drop_eq_getElem_cons hlt]
   by_cases he:x=is[k]
   ·exact ⟨k,by rw [show (x == is[k])=true by simpa using he,q_if1],by rw [decide_eq_true (show (k:Int) ≥ 0 by omega),decide_eq_true (show x ∈ is[k] :: is.drop (k + 1) by rw [<- he];exact List.mem_cons_self)]⟩
   ·obtain ⟨r,e1,e2⟩:=idx_loop (x:=x) hl m (k + 1) (by omega) (by omega)
    refine ⟨r,by rw [show (x == is[k])=false by simpa using he,q_if0,q_ck (by omega) (by omega),show ((k:Int) + 1)=((k + 1:Nat):Int) by omega];exact e1,?_⟩
    rw [e2]
    congr 1
    rw [List.mem_cons]
    simp [he]
  ·exact ⟨-1,by rw [lt_f hlt,q_if0],by rw [List.drop_of_length_le (by omega)];simp⟩
theorem contains_eq {N:Nat} {is:List Int} {x:Int} (hl:is.length <= 4611686018427387904) (hN:is.length < N):G_slices_Contains_int_int N is x=some (decide (x ∈ is)):=by
 unfold G_slices_Contains_int_int G_slices_Index_int_int
 obtain ⟨r,e1,e2⟩:=idx_loop (x:=x) hl N 0 (Nat.zero_le _) (by omega)
 have e1:L_slices_Index_int_int_0 N is x ((is.length:Nat):Int) 0=some r:=e1
 rw [e1]
 show some (decide (r ≥ 0))=_
 rw [e2,List.drop_zero]
theorem cloneI_eq {N:Nat} {l:List Int} (hl:l.length <= 17592186044415):G_slices_Clone_int_int N l=some l:=by
 unfold G_slices_Clone_int_int
 rw [q_gdT (show l.length * 8 <= 140737488355328 by omega),q_gl]
 cases l with
 | nil=>simp
 | cons a r=>simp
theorem mGet_set {α β:Type} [DecidableEq α] (es:List (α × β)) (k:α) (v:β) (j:α):mGet (mSet es k v) j=if j=k then some v else mGet es j:=by
 induction es with
 | nil=>simp only [mSet,mGet];split <;> simp_all [eq_comm]
 | cons e es ih =>
  unfold mSet
  split
  ·rename_i h
   simp only [mGet]
   split <;> rename_i h2
   ·rw [if_pos h2.symm]
   ·rw [if_neg (fun h3=>h2 h3.symm)]
    rw [if_neg (fun h3=>h2 (by rw [<- h,h3]))]
  ·rename_i h
   simp only [mGet,ih]
   split <;> rename_i h2
   ·rw [if_neg (fun h3=>h (by rw [h2,h3]))]
   ·rfl
theorem has_set (mv:MB) (k:Int) (b:Bool) (j:Int):has (mSet mv k b) j=if j=k then b else has mv j:=by
 unfold has
 rw [mGet_set]
 split <;> rfl
theorem okL_split:∀ {a pre b:List De} {d:De},okL pre (a ++ d :: b)=true->okD (pre ++ a) d=true
 | [],pre,b,d,h=>by
  rw [List.nil_append,okL,Bool.and_eq_true] at h
  rw [List.append_nil];exact h.1
 | x :: a,pre,b,d,h=>by
  rw [List.cons_append,okL,Bool.and_eq_true] at h
  have:=okL_split (a:=a) h.2
  rwa [List.append_assoc] at this
theorem chk_at {l:List De} (h:chk l=0) {k:Nat} (hk:k < l.length):okD (l.take k) l[k]=true:=by
 have:=chk_ok h
 have e:l=l.take k ++ l[k] :: l.drop (k + 1):=by rw [<- List.drop_eq_getElem_cons hk,List.take_append_drop]
 rw [e] at this
 have:=okL_split (pre:=[]) this
 rwa [List.nil_append] at this
theorem chk_of {l:List De} (h:chk l=0) {k:Nat} (hk:k < l.length):∀ o ∈ l[k].2.2,o ∈ ids (l.take k):=by
 have:=chk_at h hk
 unfold okD at this
 rw [Bool.and_eq_true] at this
 intro o ho
 exact of_decide_eq_true (List.all_eq_true.1 this.2 o ho)
theorem srt_lt {l:List De} (hs:Srt l) {i j:Nat} (hj:j < l.length) (h:i < j):(l[i]'(by omega)).1 < l[j].1:=by
 have:=List.pairwise_iff_getElem.1 hs i j (by rw [List.length_map];omega) (by rw [List.length_map];omega) h
 simpa using this
def sel (q:De->Bool) (l:List De):List Int:=ids (l.filter q)
theorem sel_srt {q:De->Bool} {l:List De} (hs:Srt l):(sel q l).Pairwise (· < ·):=List.Pairwise.sublist (List.Sublist.map _ List.filter_sublist) hs
theorem mem_sel {q:De->Bool} {l:List De} {x:Int}:x ∈ sel q l ↔ ∃ d ∈ l,q d=true/\d.1=x:=by
 unfold sel
 rw [List.mem_map]
 constructor
 ·rintro ⟨d,hd,rfl⟩
  obtain ⟨h1,h2⟩:=List.mem_filter.1 hd
  exact ⟨d,h1,h2,rfl⟩
 ·rintro ⟨d,h1,h2,rfl⟩
  exact ⟨d,List.mem_filter.2 ⟨h1,h2⟩,rfl⟩
theorem sel_sub {q:De->Bool} {l:List De} {x:Int} (h:x ∈ sel q l):x ∈ ids l:=by
 obtain ⟨d,h1,_,rfl⟩:=mem_sel.1 h
 exact List.mem_map.2 ⟨d,h1,rfl⟩
theorem next_on {l:List De} (hc:chk l=0) {T:List Int} (hs:T.Pairwise (· < ·)) (hsub:∀ x ∈ T,x ∈ ids l) {p:Int} (hp:p=0\/p ∈ T):nextF l T p=(match T.filter fun x=>decide (p < x) with
  | []=>(0,8)
  | x :: _=>(x,0)):=by
 have n1:¬ (asc T=false\/(T.all fun i=>decide (i ∈ ids l))=false):=fun h=>by
  rcases h with h | h
  ·rw [asc_iff.2 hs] at h;cases h
  ·rw [List.all_eq_true.2 (fun x hx=>decide_eq_true (hsub x hx))] at h;cases h
 have n2:¬ (p ≠ 0/\p ∉ T):=fun h=>by
  rcases hp with h0 | h0
  ·exact h.1 h0
  ·exact h.2 h0
 unfold nextF
 rw [if_neg (fun h=>h hc),if_neg n1,if_neg n2,filter_gt hs]
 try rfl
def due (cs:List Ch) (mv:MB) (d:De):Bool:=cs.any (tch d) || d.2.2.any (has mv)
structure WInv (l:List De) (cs:List Ch) (k:Nat) (T:List Int) (p:Int) (mv:MB):Prop where
 tt:T=sel (due cs mv) l
 pp:p=0\/p ∈ T
 ff:T.filter (fun x=>decide (p < x))=sel (due cs mv) (l.drop k)
 mm:∀ x,has mv x=true->x ∈ ids (l.take k)
theorem WInv.next {l:List De} {cs:List Ch} {k:Nat} {T:List Int} {p:Int} {mv:MB} (h:WInv l cs k T p mv) (hc:chk l=0):nextF l T p=(match sel (due cs mv) (l.drop k) with
  | []=>(0,8)
  | x :: _=>(x,0)):=by
 have hs:=chk_srt hc
 rw [next_on hc (by rw [h.tt];exact sel_srt hs) (fun x hx=>by rw [h.tt] at hx;exact sel_sub hx) h.pp,h.ff]
theorem sel_cons {q:De->Bool} {d:De} {l:List De}:sel q (d :: l)=if q d=true then d.1 :: sel q l else sel q l:=by
 unfold sel
 rw [List.filter_cons]
 split <;> rfl
theorem WInv.skip {l:List De} {cs:List Ch} {k:Nat} {T:List Int} {p:Int} {mv:MB} (h:WInv l cs k T p mv) (hk:k < l.length) (hd:due cs mv l[k]=false):WInv l cs (k + 1) T p mv:=by
 refine ⟨h.tt,h.pp,?_,fun x hx=>?_⟩
 ·rw [h.ff,List.drop_eq_getElem_cons hk,sel_cons,if_neg (by rw [hd];exact Bool.false_ne_true)]
 ·have:=h.mm x hx
  rw [List.take_succ_eq_append_getElem hk,ids,List.map_append]
  exact List.mem_append_left _ this
theorem has_in:∀ (is:List Int) (mp:MB) (x:Int),has (inM mp is) x=(has mp x || decide (x ∈ is))
 | [],mp,x=>by simp [inM]
 | a :: is,mp,x=>by
  show has (inM (mSet mp a true) is) x=_
  rw [has_in is,has_set]
  by_cases h:x=a
  ·rw [if_pos h];simp [h]
  ·rw [if_neg h];simp [h]
def runL (cs:List Ch):List De->MB->List Int
 | [],_=>[]
 | d :: r,mv=>if due cs mv d=true then d.1 :: runL cs r (mSet mv d.1 true) else runL cs r mv
theorem mem_take {l:List De} {x:Int} {k:Nat} (h:x ∈ ids (l.take k)):∃ j,∃ hj:j < l.length,j < k/\l[j].1=x:=by
 obtain ⟨d,hd,rfl⟩:=List.mem_map.1 h
 obtain ⟨j,hj,rfl⟩:=List.getElem_of_mem hd
 rw [List.length_take] at hj
 exact ⟨j,by omega,by omega,by rw [List.getElem_take]⟩
structure FInv (l:List De) (cs:List Ch) (A:List Int) (i k:Nat) (T:List Int) (p:Int) (mv:MB):Prop where
 w:WInv l cs k T p mv
 hk:k <= l.length
 dr:A.drop i=runL cs (l.drop k) mv
 ta:A.take i=sel (due cs mv) (l.take k)
theorem sel_app {q:De->Bool} {a b:List De}:sel q (a ++ b)=sel q a ++ sel q b:=by
 unfold sel ids
 rw [List.filter_append,List.map_append]
theorem FInv.skip {l:List De} {cs:List Ch} {A:List Int} {i k:Nat} {T:List Int} {p:Int} {mv:MB} (h:FInv l cs A i k T p mv) (hk:k < l.length) (hd:due cs mv l[k]=false):FInv l cs A i (k + 1) T p mv:=by
 refine ⟨h.w.skip hk hd,hk,?_,?_⟩
 ·rw [h.dr,List.drop_eq_getElem_cons hk,runL,if_neg (by rw [hd];exact Bool.false_ne_true)]
 ·rw [h.ta,List.take_succ_eq_append_getElem hk,sel_app,sel_cons,if_neg (by rw [hd];exact Bool.false_ne_true)]
  simp [sel]
theorem FInv.go {l:List De} {cs:List Ch} {A:List Int} {i:Nat} {T:List Int} {p:Int} {mv:MB}:∀ (n k:Nat),l.length - k=n->FInv l cs A i k T p mv->∃ k',FInv l cs A i k' T p mv/\(k'=l.length\/∃ hk:k' < l.length,due cs mv l[k']=true)
 | 0,k,hn,h=>⟨k,h,.inl (by have:=h.hk;omega)⟩
 | n + 1,k,hn,h=>by
  have hk:k < l.length:=by omega
  cases hd:due cs mv l[k] with
  | true=>exact ⟨k,h,.inr ⟨hk,hd⟩⟩
  | false=>exact FInv.go n (k + 1) (by omega) (h.skip hk hd)
theorem FInv.end {l:List De} {cs:List Ch} {A:List Int} {T:List Int} {p:Int} {mv:MB} {k:Nat} (hc:chk l=0) (h:FInv l cs A A.length k T p mv):nextF l T p=(0,8)/\T=A:=by
 obtain ⟨k',h,hk⟩:=FInv.go _ k rfl h
 have hdr:=h.dr
 rw [List.drop_of_length_le (Nat.le_refl _)] at hdr
 rcases hk with rfl | ⟨hk,hd⟩
 ·refine ⟨?_,?_⟩
  ·rw [h.w.next hc,List.drop_of_length_le (Nat.le_refl _)];rfl
  ·have:=h.ta
   rw [List.take_length,List.take_length] at this
   rw [this];exact h.w.tt
 ·rw [List.drop_eq_getElem_cons hk,runL,if_pos hd] at hdr
  cases hdr
def smallD (d:De):Prop:=d.2.2.length <= 20/\d.2.1.length <= 42
theorem few_loop {l:List De} (hl:l.length <= 4611686018427387904):∀ (m k:Nat),k <= l.length->l.length - k < m->∃ b,L_ref26_Few_0 m l (k:Int)=some b/\(b=true->∀ d ∈ l.drop k,smallD d)
 | 0,_,_,h=>absurd h (Nat.not_lt_zero _)
 | m + 1,k,h1,h=>by
  show ∃ b,B_ref26_Few_0 (L_ref26_Few_0 m) l _=some b/\_
  unfold B_ref26_Few_0
  by_cases hlt:k < l.length
  ·have hd:∃ f:Bool,(get? l (k:Int) fun x7=>if? (decide (((x7.2.2.length:Nat):Int) > 20)) (some (l,(k:Int),true)) (get? l (k:Int) fun x8=>if? (decide (((x8.2.1.length:Nat):Int) > 8)) (get? l (k:Int) fun x9=>if? (decide (((x9.2.1.length:Nat):Int) <= 40)) (some (l,(k:Int),true)) (get? l (k:Int) fun x10=>some (l,(k:Int),decide (((x10.2.1.length:Nat):Int) > 42)))) (get? l (k:Int) fun x11=>some (l,(k:Int),decide (((x11.2.1.length:Nat):Int) > 42)))))=some (l,(k:Int),f)/\(f=false->smallD l[k]):=by
    simp only [q_get (getn hlt)]
    by_cases c1:((l[k].2.2.length:Nat):Int) > 20
    ·exact ⟨true,by rw [decide_eq_true c1];rfl,fun e=>by cases e⟩
    ·rw [decide_eq_false c1,q_if0]
     by_cases c2:((l[k].2.1.length:Nat):Int) > 8
     ·rw [decide_eq_true c2,q_if1]
      by_cases c3:((l[k].2.1.length:Nat):Int) <= 40
      ·exact ⟨true,by rw [decide_eq_true c3];rfl,fun e=>by cases e⟩
      ·rw [decide_eq_false c3,q_if0]
       exact ⟨_,rfl,fun e=>⟨by omega,by have:=of_decide_eq_false e;omega⟩⟩
     ·rw [decide_eq_false c2,q_if0]
      exact ⟨_,rfl,fun e=>⟨by omega,by have:=of_decide_eq_false e;omega⟩⟩
   obtain ⟨f,e1,e2⟩:=hd
   rw [lt_t hlt,q_if1,e1]
   simp only [q_bd]
   cases f with
   | true=>exact ⟨false,rfl,fun e=>by cases e⟩
   | false =>
    obtain ⟨b,i1,i2⟩:=few_loop hl m (k + 1) (by omega) (by omega)
    refine ⟨b,by rw [q_if0,q_ck (by omega) (by omega),show ((k:Int) + 1)=((k + 1:Nat):Int) by omega];exact i1,fun hb d hd=>?_⟩
    rw [List.drop_eq_getElem_cons hlt] at hd
    rcases List.mem_cons.1 hd with rfl | hd
    ·exact e2 rfl
    ·exact i2 hb d hd
  ·exact ⟨true,by rw [lt_f hlt,q_if0],fun _ d hd=>by rw [List.drop_of_length_le (by omega)] at hd;cases hd⟩
theorem few_eq {N:Nat} (hN:2010 < N) (l:List De) (most:Int):∃ b,G_ref26_Few N l most=some b/\(b=true->∀ d ∈ l,smallD d):=by
 unfold G_ref26_Few
 have hs:∃ f:Bool,(if? (decide (((l.length:Nat):Int) > most)) (if? (decide (((l.length:Nat):Int) <= 2000)) (some (l,true)) (some (l,decide (((l.length:Nat):Int) > 2010)))) (some (l,decide (((l.length:Nat):Int) > 2010))))=some (l,f)/\(f=false->l.length <= 2010):=by
  by_cases c1:((l.length:Nat):Int) > most
  ·rw [decide_eq_true c1,q_if1]
   by_cases c2:((l.length:Nat):Int) <= 2000
   ·exact ⟨true,by rw [decide_eq_true c2];rfl,fun e=>by cases e⟩
   ·rw [decide_eq_false c2,q_if0]
    exact ⟨_,rfl,fun e=>by have:=of_decide_eq_false e;omega⟩
  ·rw [decide_eq_false c1,q_if0]
   exact ⟨_,rfl,fun e=>by have:=of_decide_eq_false e;omega⟩
 obtain ⟨f,e1,e2⟩:=hs
 rw [e1]
 simp only [q_bd]
 cases f with
 | true=>exact ⟨false,rfl,fun e=>by cases e⟩
 | false =>
  have:=e2 rfl
  obtain ⟨b,i1,i2⟩:=few_loop (l:=l) (by omega) N 0 (Nat.zero_le _) (by omega)
  exact ⟨b,by rw [q_if0];exact i1,fun hb d hd=>i2 hb d (by rw [List.drop_zero];exact hd)⟩
theorem few_of {N:Nat} (hN:2010 < N) {l:List De} (hl:l.length <= 2010) (h:∀ d ∈ l,smallD d):Few N l :=
 ⟨by omega,by omega,fun d hd=>by have:=h d hd;unfold smallD at this;omega,fun d hd=>by have:=h d hd;unfold smallD at this;omega⟩
abbrev Tk:=Int × Int
def cov (l:List Tk) (x:Int):Prop:=∃ t ∈ l,t.1 <= x/\x < t.2
def mg:List Tk->Tk->List Tk->List Tk
 | pre,z,[]=>pre ++ [z]
 | pre,z,t :: r=>if t.1 <= z.2 then mg pre (z.1,max z.2 t.2) r else mg (pre ++ [z]) t r
def mg0:List Tk->List Tk
 | []=>[]
 | t :: r=>mg [] t r
theorem mg_spec:∀ {r:List Tk} {pre:List Tk} {z:Tk},(pre ++ [z]).Pairwise (fun a b=>a.2 < b.1)->(∀ t ∈ pre ++ [z],t.1 < t.2)->(z :: r).Pairwise (fun a b=>a.1 <= b.1)->(∀ t ∈ r,t.1 < t.2) ->
  (mg pre z r).Pairwise (fun a b=>a.2 < b.1)/\(∀ t ∈ mg pre z r,t.1 < t.2)/\∀ x,cov (mg pre z r) x ↔ cov (pre ++ [z]) x\/cov r x
 | [],pre,z,h1,h2,_,_=>⟨h1,h2,fun x=>by simp [mg,cov]⟩
 | t :: r,pre,z,h1,h2,h3,h4=>by
  have ht:=h4 t List.mem_cons_self
  have hz:=h2 z (by simp)
  have hzt:z.1 <= t.1:=List.rel_of_pairwise_cons h3 List.mem_cons_self
  have h3':(t :: r).Pairwise (fun a b=>a.1 <= b.1):=List.Pairwise.of_cons h3
  have h5:∀ u ∈ r,u.1 < u.2:=fun u hu=>h4 u (List.mem_cons_of_mem _ hu)
  rw [List.pairwise_append] at h1
  unfold mg
  by_cases hc:t.1 <= z.2
  ·rw [if_pos hc]
   have hmx:z.2 <= max z.2 t.2/\t.2 <= max z.2 t.2/\(max z.2 t.2=z.2\/max z.2 t.2=t.2):=by omega
   obtain ⟨m1,m2,m3⟩:=hmx
   generalize max z.2 t.2=e at *
   obtain ⟨i1,i2,i3⟩:=mg_spec (r:=r) (pre:=pre) (z:=(z.1,e)) (List.pairwise_append.2 ⟨h1.1,by simp,fun a ha b hb=>by rw [List.mem_singleton.1 hb];exact h1.2.2 a ha z (by simp)⟩)
    (fun u hu=>by
     rcases List.mem_append.1 hu with hu | hu
     ·exact h2 u (List.mem_append_left _ hu)
     ·rw [List.mem_singleton.1 hu];show z.1 < e;omega)
    (List.pairwise_cons.2 ⟨fun u hu=>by have:=List.rel_of_pairwise_cons h3' hu;show z.1 <= u.1;omega,List.Pairwise.of_cons h3'⟩) h5
   refine ⟨i1,i2,fun x=>?_⟩
   rw [i3 x]
   have key:cov (pre ++ [(z.1,e)]) x ↔ cov (pre ++ [z]) x\/(t.1 <= x/\x < t.2):=by
    constructor
    ·rintro ⟨u,hu,q⟩
     rcases List.mem_append.1 hu with hu | hu
     ·exact .inl ⟨u,List.mem_append_left _ hu,q⟩
     ·rw [List.mem_singleton.1 hu] at q
      have q:z.1 <= x/\x < e:=q
      by_cases hx:x < z.2
      ·exact .inl ⟨z,by simp,q.1,hx⟩
      ·exact .inr ⟨by omega,by omega⟩
    ·rintro (⟨u,hu,q⟩ | q)
     ·rcases List.mem_append.1 hu with hu | hu
      ·exact ⟨u,List.mem_append_left _ hu,q⟩
      ·rw [List.mem_singleton.1 hu] at q
       exact ⟨(z.1,e),by simp,q.1,by show x < e;omega⟩
     ·exact ⟨(z.1,e),by simp,by show z.1 <= x;omega,by show x < e;omega⟩
   rw [key]
   constructor
   ·rintro ((h | h) | h)
    ·exact .inl h
    ·exact .inr ⟨t,List.mem_cons_self,h⟩
    ·obtain ⟨u,hu,q⟩:=h
     exact .inr ⟨u,List.mem_cons_of_mem _ hu,q⟩
   ·rintro (h | ⟨u,hu,q⟩)
    ·exact .inl (.inl h)
    ·rcases List.mem_cons.1 hu with rfl | hu
     ·exact .inl (.inr q)
     ·exact .inr ⟨u,hu,q⟩
  ·rw [if_neg hc]
   obtain ⟨i1,i2,i3⟩:=mg_spec (r:=r) (pre:=pre ++ [z]) (z:=t) (List.pairwise_append.2 ⟨List.pairwise_append.2 h1,by simp,fun a ha b hb=>by
     rw [List.mem_singleton.1 hb]
     rcases List.mem_append.1 ha with ha | ha
     ·have:=h1.2.2 a ha z (by simp);omega
     ·rw [List.mem_singleton.1 ha];omega⟩)
    (fun u hu=>by
     rcases List.mem_append.1 hu with hu | hu
     ·exact h2 u hu
     ·rw [List.mem_singleton.1 hu];exact ht) h3' h5
   refine ⟨i1,i2,fun x=>?_⟩
   rw [i3 x]
   constructor
   ·rintro (⟨u,hu,q⟩ | ⟨u,hu,q⟩)
    ·rcases List.mem_append.1 hu with hu | hu
     ·exact .inl ⟨u,hu,q⟩
     ·rw [List.mem_singleton.1 hu] at q
      exact .inr ⟨t,List.mem_cons_self,q⟩
    ·exact .inr ⟨u,List.mem_cons_of_mem _ hu,q⟩
   ·rintro (⟨u,hu,q⟩ | ⟨u,hu,q⟩)
    ·exact .inl ⟨u,List.mem_append_left _ hu,q⟩
    ·rcases List.mem_cons.1 hu with rfl | hu
     ·exact .inl ⟨_,by simp,q⟩
     ·exact .inr ⟨u,hu,q⟩
theorem mg0_spec {l:List Tk} (h1:l.Pairwise (fun a b=>a.1 <= b.1)) (h2:∀ t ∈ l,t.1 < t.2):(mg0 l).Pairwise (fun a b=>a.2 < b.1)/\(∀ t ∈ mg0 l,t.1 < t.2)/\∀ x,cov (mg0 l) x ↔ cov l x:=by
 cases l with
 | nil=>exact ⟨List.Pairwise.nil,(fun _ h=>by cases h),fun x=>Iff.rfl⟩
 | cons t r =>
  obtain ⟨i1,i2,i3⟩:=mg_spec (pre:=[]) (z:=t) (r:=r) (by simp) (fun u hu=>by rw [List.nil_append,List.mem_singleton] at hu;rw [hu];exact h2 t List.mem_cons_self) h1 (fun u hu=>h2 u (List.mem_cons_of_mem _ hu))
  refine ⟨i1,i2,fun x=>?_⟩
  show cov (mg [] t r) x ↔ _
  rw [i3]
  constructor
  ·rintro (⟨u,hu,q⟩ | ⟨u,hu,q⟩)
   ·rw [List.nil_append,List.mem_singleton] at hu
    exact ⟨t,List.mem_cons_self,hu ▸ q⟩
   ·exact ⟨u,List.mem_cons_of_mem _ hu,q⟩
  ·rintro ⟨u,hu,q⟩
   rcases List.mem_cons.1 hu with rfl | hu
   ·exact .inl ⟨_,by simp,q⟩
   ·exact .inr ⟨u,hu,q⟩
theorem join_loop {v:List Tk} (hl:v.length <= 4000000000000):∀ (m k:Nat) (pre:List Tk) (z:Tk),k <= v.length->v.length - k < m->pre.length + 1 <= k ->
  L_lineage_join_0 m ((v.length:Nat):Int) (k:Int) v (pre ++ [z])=some (v,mg pre z (v.drop k))
 | 0,_,_,_,_,h,_=>absurd h (Nat.not_lt_zero _)
 | m + 1,k,pre,z,h1,h,h2=>by
  show B_lineage_join_0 (L_lineage_join_0 m) _ _ v (pre ++ [z])=_
  unfold B_lineage_join_0
  by_cases hlt:k < v.length
  ·have hn:(pre ++ [z]).length=pre.length + 1:=by simp
   have hz:(pre ++ [z])[pre.length]?=some z:=by simp
   have e1:(((pre ++ [z]).length:Nat):Int) - 1=(pre.length:Int):=by omega
   rw [lt_t hlt,q_if1,q_gdT (by omega),q_gdT (by omega),Int.toNat_natCast,q_gn (getn hlt),decide_eq_true (show (((pre ++ [z]).length:Nat):Int) > 0 by omega),q_if1,q_ck (by omega) (by omega),e1,q_gdT (by omega),q_gdT (by omega),Int.toNat_natCast,q_gn hz,q_gl,q_gl]
   simp only [q_bd]
   rw [List.drop_eq_getElem_cons hlt,mg,e1]
   by_cases c:v[k].1 <= z.2
   ·have hs:(pre ++ [z]).set pre.length (z.1,max z.2 v[k].2)=pre ++ [(z.1,max z.2 v[k].2)]:=by simp
    rw [decide_eq_true c,if_pos c,q_if1,q_ck (by omega) (by omega),q_ck (by omega) (by omega),q_gdT (by omega),q_gdT (by omega),Int.toNat_natCast,q_gn hz,q_gdT (by omega),q_gdT (by omega),q_gn hz,hs]
    rw [q_glT (by simp),q_gl]
    simp only [q_bd]
    rw [q_ck (by omega) (by omega),q_gl,q_gl,show ((k:Int) + 1)=((k + 1:Nat):Int) by omega]
    exact join_loop hl m (k + 1) pre _ (by omega) (by omega) (by omega)
   ·rw [decide_eq_false c,if_neg c,q_if0,q_gl,q_gdT (by simp only [List.length_append,List.length_cons,List.length_nil];omega),q_gl,q_gl]
    simp only [q_bd]
    rw [q_ck (by omega) (by omega),q_gl,q_gl,show ((k:Int) + 1)=((k + 1:Nat):Int) by omega]
    exact join_loop hl m (k + 1) (pre ++ [z]) _ (by omega) (by omega) (by simp;omega)
  ·rw [lt_f hlt,q_if0,List.drop_of_length_le (by omega),q_gl];rfl
theorem join_eq {N:Nat} {v:List Tk} (hl:v.length <= 4000000000000) (hN:v.length < N):G_lineage_join N v=some (sortF (0,0) (ltOf cfT) v,mg0 (sortF (0,0) (ltOf cfT) v)):=by
 unfold G_lineage_join
 rw [q_gl,show G_slices_SortFunc_Ticks_Ticks N v=some (sortF (0,0) (ltOf cfT) v) from if_pos (by omega)]
 have hlen:=sortF_len (z:=((0,0):Tk)) swoT v
 generalize sortF (0,0) (ltOf cfT) v=s at *
 simp only [q_bd]
 rw [q_glT hlen.symm,<- hlen]
 cases s with
 | nil =>
  obtain ⟨m,rfl⟩:∃ m,N=m + 1:=⟨N - 1,by omega⟩
  rfl
 | cons t r =>
  obtain ⟨m,rfl⟩:∃ m,N=m + 1:=⟨N - 1,by omega⟩
  show B_lineage_join_0 (L_lineage_join_0 m) _ _ (t :: r) []=_
  have hlt:0 < (t :: r).length:=by simp
  have:=join_loop (v:=t :: r) (by omega) m 1 [] t (by omega) (by omega) (by simp)
  unfold B_lineage_join_0
  rw [show (0:Int)=((0:Nat):Int) from rfl,lt_t hlt,q_if1,q_gdT (by omega),q_gdT (by omega),Int.toNat_natCast,q_gn (getn hlt)]
  rw [decide_eq_false (show ¬ (((([]:List Tk).length:Nat):Int) > ((0:Nat):Int)) by simp),q_if0,q_gl,q_gl]
  simp only [q_bd,q_if0]
  rw [q_gl,q_gdT (by simp),q_gl,q_gl]
  simp only [q_bd]
  rw [q_ck (by omega) (by omega),q_gl,q_gl]
  exact this
abbrev MP:=List (Arr 2 × List Tk)
def kyr (x:Rd) (j:Nat):Arr 2:=Arr.from [x.1,1 * 2 ^ j] 2
theorem kyr_l (x:Rd) (j:Nat):(kyr x j).l=[x.1,1 * 2 ^ j]:=Arr.l_from (by simp)
def hasK (x:Rd) (j:Nat):Bool:=decide ((bits .and .i64 x.2.1 (1 * 2 ^ j)) > 0)
def addK (mp:MP) (x:Rd) (j:Nat):MP:=if hasK x j=true then mSet mp (kyr x j) ((mGet mp (kyr x j)).getD [] ++ [(x.2.2.1,x.2.2.2)]) else mp
def addR (mp:MP) (x:Rd):MP:=addK (addK (addK (addK mp x 0) x 1) x 2) x 3
structure Wd (mp:MP) (B:Nat):Prop where
 len:mp.length <= B
 row:∀ e ∈ mp,e.2.length <= B
theorem Wd.mono {mp:MP} {B C:Nat} (h:Wd mp B) (hc:B <= C):Wd mp C:=⟨Nat.le_trans h.len hc,fun e he=>Nat.le_trans (h.row e he) hc⟩
theorem mGet_mem {α β:Type} [DecidableEq α]:∀ {es:List (α × β)} {k:α} {v:β},mGet es k=some v->(k,v) ∈ es
 | [],_,_,h=>by cases h
 | e :: es,k,v,h=>by
  unfold mGet at h
  split at h
  ·rename_i he
   cases h
   rw [<- he];exact List.mem_cons_self
  ·exact List.mem_cons_of_mem _ (mGet_mem h)
theorem mGet_of {α β:Type} [DecidableEq α]:∀ {es:List (α × β)} {k:α} {v:β},(es.map (·.1)).Nodup->(k,v) ∈ es->mGet es k=some v
 | [],_,_,_,h=>by cases h
 | e :: es,k,v,hn,h=>by
  have hn:(e.1 :: es.map (·.1)).Nodup:=hn
  rw [List.nodup_cons] at hn
  unfold mGet
  rcases List.mem_cons.1 h with rfl | h
  ·rw [if_pos rfl]
  ·rw [if_neg (fun he=>hn.1 (by rw [he];exact List.mem_map.2 ⟨_,h,rfl⟩)),mGet_of hn.2 h]
theorem mSet_mem {α β:Type} [DecidableEq α]:∀ {es:List (α × β)} {k:α} {v:β} {e:α × β},e ∈ mSet es k v->e=(k,v)\/e ∈ es
 | [],_,_,_,h=>.inl (List.mem_singleton.1 h)
 | e0 :: es,k,v,e,h=>by
  unfold mSet at h
  split at h
  ·rcases List.mem_cons.1 h with h | h
   ·exact .inl h
   ·exact .inr (List.mem_cons_of_mem _ h)
  ·rcases List.mem_cons.1 h with h | h
   ·exact .inr (h ▸ List.mem_cons_self)
   ·rcases mSet_mem h with h | h
    ·exact .inl h
    ·exact .inr (List.mem_cons_of_mem _ h)
theorem mSet_len {α β:Type} [DecidableEq α]:∀ (es:List (α × β)) (k:α) (v:β),(mSet es k v).length <= es.length + 1
 | [],_,_=>by simp [mSet]
 | e0 :: es,k,v=>by
  unfold mSet
  split
  ·simp
  ·have:=mSet_len es k v;simp;omega
theorem mSet_nodup {α β:Type} [DecidableEq α]:∀ {es:List (α × β)} {k:α} {v:β},(es.map (·.1)).Nodup->((mSet es k v).map (·.1)).Nodup
 | [],_,_,_=>by simp [mSet]
 | e0 :: es,k,v,h=>by
  have h':(e0.1 :: es.map (·.1)).Nodup:=h
  rw [List.nodup_cons] at h'
  unfold mSet
  split
  ·rename_i he
   show (k :: es.map (·.1)).Nodup
   rw [<- he];exact h
  ·rename_i he
   show (e0.1 :: (mSet es k v).map (·.1)).Nodup
   refine List.nodup_cons.2 ⟨fun q=>?_,mSet_nodup h'.2⟩
   obtain ⟨e,q1,q2⟩:=List.mem_map.1 q
   rcases mSet_mem q1 with rfl | q1
   ·exact he q2.symm
   ·exact h'.1 (List.mem_map.2 ⟨e,q1,q2⟩)
theorem Wd.get {mp:MP} {B:Nat} (h:Wd mp B) (k:Arr 2):((mGet mp k).getD []).length <= B:=by
 cases e:mGet mp k with
 | none=>simp
 | some v=>exact h.row _ (mGet_mem e)
theorem Wd.add {mp:MP} {B:Nat} (h:Wd mp B) (x:Rd) (j:Nat):Wd (addK mp x j) (B + 1):=by
 unfold addK
 split
 ·have hl:=mSet_len mp (kyr x j) ((mGet mp (kyr x j)).getD [] ++ [(x.2.2.1,x.2.2.2)])
  refine ⟨by have:=h.len;omega,fun e he=>?_⟩
  rcases mSet_mem he with rfl | he
  ·have:=h.get (kyr x j)
   show (_ ++ _:List Tk).length <= _
   rw [List.length_append];simp;omega
  ·have:=h.row e he;omega
 ·exact h.mono (by omega)
theorem Wd.add4 {mp:MP} {B:Nat} (h:Wd mp B) (x:Rd):Wd (addR mp x) (B + 4):=(((h.add x 0).add x 1).add x 2).add x 3
theorem Wd.addL:∀ {rs:List Rd} {mp:MP} {B:Nat},Wd mp B->Wd (rs.foldl addR mp) (B + 4 * rs.length)
 | [],_,_,h=>h.mono (by omega)
 | x :: r,mp,B,h=>(Wd.addL (rs:=r) (h.add4 x)).mono (by simp;omega)
section
variable {rec22:(List De)->Int->(List Rd)->Int->Int->(List (Int × Bool))->MP->Option ((List De) × (Int × ((List (Int × Bool)) × MP)))} {l:List De} {k i:Int} {rs:List Rd} {n:Int} {need:MB}
theorem kind_step {mp:MP} {x:Rd} {B:Nat} (hw:Wd mp B) (hB:B <= 4000000000000) {j m:Nat} (hj:j <= 3) :
  L_lineage_Reads_3 rec22 (m + 1) l k (j:Int) rs n i need mp x.1 x.2.1 x.2.2.1 x.2.2.2=L_lineage_Reads_3 rec22 m l k ((j + 1:Nat):Int) rs n i need (addK mp x j) x.1 x.2.1 x.2.2.1 x.2.2.2:=by
 show B_lineage_Reads_3 rec22 (L_lineage_Reads_3 rec22 m) l k (j:Int) rs n i need mp _ _ _ _=_
 unfold B_lineage_Reads_3
 have h8:(0:Int) < 1 * 2 ^ j/\(1 * 2 ^ j:Int) <= 8:=by
  match j,hj with
  | 0,_=>decide
  | 1,_=>decide
  | 2,_=>decide
  | 3,_=>decide
 have hky:(Arr.from [x.1,1 * 2 ^ j] 2)=kyr x j:=rfl
 have hg:=hw.get (kyr x j)
 rw [decide_eq_true (show (j:Int) <= 3 by omega),q_if1,q_gdT (by omega),q_gdT (by show (j:Int) <= 64;omega),Int.toNat_natCast,q_ck (by omega) (by omega),hky,kyr_l,q_gn (x:=1 * 2 ^ j) rfl]
 unfold addK
 show bd? (if? (hasK x j) _ _) _=_
 cases hb:hasK x j with
 | true =>
  rw [q_if1,q_gl,q_gdT (show ((((mGet mp (kyr x j)).getD []).length + [(x.2.2.1,x.2.2.2)].length) * 16 <= 140737488355328) by simp;omega),q_gl,q_gd]
  simp only [q_bd,if_true]
  rw [q_ck (by omega) (by omega)]
  rfl
 | false =>
  rw [q_if0]
  simp only [q_bd,Bool.false_eq_true,if_false]
  rw [q_ck (by omega) (by omega)]
  rfl
theorem kinds_eq {mp:MP} {x:Rd} {B N:Nat} (hw:Wd mp B) (hB:B <= 3000000000000) (hN:5 <= N) :
  L_lineage_Reads_3 rec22 N l k 0 rs n i need mp x.1 x.2.1 x.2.2.1 x.2.2.2=ck .i64 (i + 1) (rec22 l k rs n (i + 1) need (addR mp x)):=by
 obtain ⟨m,rfl⟩:∃ m,N=m + 1 + 1 + 1 + 1 + 1:=⟨N - 5,by omega⟩
 show L_lineage_Reads_3 rec22 (m + 1 + 1 + 1 + 1 + 1) l k ((0:Nat):Int) _ _ _ _ _ _ _ _ _=_
 rw [kind_step hw (by omega) (by omega),kind_step (hw.add x 0) (by omega) (by omega),kind_step ((hw.add x 0).add x 1) (by omega) (by omega),kind_step (((hw.add x 0).add x 1).add x 2) (by omega) (by omega)]
 rfl
end
theorem reads2_loop {N:Nat} (hN:5 <= N) {l:List De} {k:Int} {rs:List Rd} {need:MB} (hr:rs.length <= 100000000000):∀ (m i:Nat) (mp:MP) (B:Nat),i <= rs.length->rs.length - i < m->Wd mp B->B + 4 * (rs.length - i) <= 2000000000000 ->
  L_lineage_Reads_2 N m l k rs ((rs.length:Nat):Int) (i:Int) need mp=some (l,k,need,(rs.drop i).foldl addR mp)
 | 0,_,_,_,_,h,_,_=>absurd h (Nat.not_lt_zero _)
 | m + 1,i,mp,B,h1,h,hw,hB=>by
  show B_lineage_Reads_2 N (L_lineage_Reads_2 N m) l k rs _ _ need mp=_
  unfold B_lineage_Reads_2
  by_cases hlt:i < rs.length
  ·rw [lt_t hlt,q_if1,q_get (getn hlt),List.drop_eq_getElem_cons hlt,List.foldl_cons]
   rw [kinds_eq hw (by omega) hN,q_ck (by omega) (by omega),show ((i:Int) + 1)=((i + 1:Nat):Int) by omega]
   exact reads2_loop hN hr m (i + 1) _ (B + 4) (by omega) (by omega) (hw.add4 _) (by omega)
  ·rw [lt_f hlt,q_if0,List.drop_of_length_le (by omega)];rfl
theorem reads1_loop {N:Nat} {l:List De} {k:Nat} {d:De} (hk:l[k]?=some d) {mp:MP} (hl:d.2.2.length <= 4000000000000):∀ (m i:Nat) (need:MB),i <= d.2.2.length->d.2.2.length - i < m ->
  L_lineage_Reads_1 N m l (k:Int) d.2.2 ((d.2.2.length:Nat):Int) (i:Int) need mp=L_lineage_Reads_2 N N l (k:Int) d.2.1 ((d.2.1.length:Nat):Int) 0 (inM need (d.2.2.drop i)) mp
 | 0,_,_,_,h=>absurd h (Nat.not_lt_zero _)
 | m + 1,i,need,h1,h=>by
  show B_lineage_Reads_1 N (L_lineage_Reads_1 N m) l _ d.2.2 _ _ need mp=_
  unfold B_lineage_Reads_1
  by_cases hlt:i < d.2.2.length
  ·rw [lt_t hlt,q_if1,q_get (getn hlt),List.drop_eq_getElem_cons hlt,q_ck (by omega) (by omega),show ((i:Int) + 1)=((i + 1:Nat):Int) by omega]
   exact reads1_loop hk hl m (i + 1) _ (by omega) (by omega)
  ·rw [lt_f hlt,q_if0,List.drop_of_length_le (by omega),q_get hk];rfl
def back:List De->MB->MP->MP
 | [],_,mp=>mp
 | d :: r,need,mp=>if has need d.1=true then back r (inM need d.2.2) (d.2.1.foldl addR mp) else back r need mp
theorem reads0_loop {N:Nat} (hN:5 <= N) {l:List De} (hl:l.length <= 100000) (hR:∀ d ∈ l,d.2.1.length <= 100/\d.2.1.length < N/\d.2.2.length < N/\d.2.2.length <= 4000000000000) :
  ∀ (m k:Nat) (need:MB) (mp:MP) (B:Nat),k <= l.length->k < m->Wd mp B->B + 400 * k <= 1000000000000 ->
  L_lineage_Reads_0 N m l ((k:Int) - 1) need mp=L_lineage_Reads_4 N N [] (back (l.take k).reverse need mp) ((back (l.take k).reverse need mp).map (fun z=>z.1))
 | 0,_,_,_,_,_,h,_,_=>absurd h (Nat.not_lt_zero _)
 | m + 1,0,need,mp,B,h1,h,hw,hB=>by
  show B_lineage_Reads_0 N (L_lineage_Reads_0 N m) l (((0:Nat):Int) - 1) need mp=_
  unfold B_lineage_Reads_0
  rw [decide_eq_false (by omega),q_if0];rfl
 | m + 1,k + 1,need,mp,B,h1,h,hw,hB=>by
  have hk:k < l.length:=by omega
  obtain ⟨r1,r2,r3,r4⟩:=hR _ (List.getElem_mem hk)
  show B_lineage_Reads_0 N (L_lineage_Reads_0 N m) l _ need mp=_
  unfold B_lineage_Reads_0
  have hrev:(l.take (k + 1)).reverse=l[k] :: (l.take k).reverse:=by rw [<- List.take_append_getElem hk,List.reverse_append];rfl
  rw [show (((k + 1:Nat):Int) - 1)=(k:Int) by omega,decide_eq_true (by omega),q_if1,q_get (getn hk),q_get (getn hk),hrev,back]
  show bd? (if? (!has need l[k].1) _ _) _=_
  rw [q_ifn]
  cases hb:has need l[k].1 with
  | true =>
   rw [q_if1]
   have e1:=reads1_loop (N:=N) (mp:=mp) (getn hk) r4 N 0 need (Nat.zero_le _) (by omega)
   have e2:=reads2_loop (N:=N) (l:=l) (k:=(k:Int)) (rs:=l[k].2.1) (need:=inM need l[k].2.2) hN (by omega) N 0 mp B (Nat.zero_le _) (by omega) hw (by omega)
   rw [List.drop_zero] at e1 e2
   rw [show (0:Int)=((0:Nat):Int) from rfl,e1,show (0:Int)=((0:Nat):Int) from rfl,e2]
   simp only [q_bd,if_true]
   rw [q_ck (by omega) (by omega)]
   exact reads0_loop hN hl hR m k _ _ (B + 4 * l[k].2.1.length) (by omega) (by omega) hw.addL (by omega)
  | false =>
   rw [q_if0]
   simp only [q_bd,Bool.false_eq_true,if_false]
   rw [q_ck (by omega) (by omega)]
   exact reads0_loop hN hl hR m k _ _ B (by omega) (by omega) hw (by omega)
def g0 (k:Arr 2):Int:=k.l[0]'(by rw [k.len];omega)
def g1 (k:Arr 2):Int:=k.l[1]'(by rw [k.len];omega)
theorem arr_eq {a b:Arr 2} (h0:g0 a=g0 b) (h1:g1 a=g1 b):a=b:=by
 apply Arr.ext
 have ha:=a.len
 have hb:=b.len
 unfold g0 at h0
 unfold g1 at h1
 match ea:a.l,eb:b.l,ha,hb with
 | [x,y],[z,w],_,_ =>
  simp only [ea,eb] at h0 h1
  simp at h0 h1
  rw [h0,h1]
def rdK (k:Arr 2) (t:Tk):Rd:=(g0 k,g1 k,t.1,t.2)
def rowsK (k:Arr 2) (v:List Tk):List Rd:=(mg0 (sortF (0,0) (ltOf cfT) v)).map (rdK k)
def flatM (mp:MP) (rem:List (Arr 2)):List Rd:=rem.flatMap fun k=>rowsK k ((mGet mp k).getD [])
theorem mg_len:∀ (pre:List Tk) (z:Tk) (r:List Tk),(mg pre z r).length <= pre.length + 1 + r.length
 | pre,z,[]=>by simp [mg]
 | pre,z,t :: r=>by
  unfold mg
  split
  ·have:=mg_len pre (z.1,max z.2 t.2) r;simp at *;omega
  ·have:=mg_len (pre ++ [z]) t r;simp at *;omega
theorem rowsK_len (k:Arr 2) (v:List Tk):(rowsK k v).length <= v.length:=by
 unfold rowsK
 rw [List.length_map]
 have hlen:=sortF_len (z:=((0,0):Tk)) swoT v
 generalize sortF (0,0) (ltOf cfT) v=s at *
 cases s with
 | nil=>simp [mg0]
 | cons t r=>have:=mg_len [] t r;simp [mg0] at *;omega
section
variable {N:Nat} {rec47:(List Rd)->MP->(List (Arr 2))->Option (Int × (List Rd))} {mp:MP} {rem:List (Arr 2)} {k:Arr 2}
theorem l5_loop {t:List Tk} (ht:t.length <= 1000000000000):∀ (m i:Nat) (out:List Rd),i <= t.length->t.length - i < m->out.length + (t.length - i) <= 1000000000000 ->
  L_lineage_Reads_5 rec47 m ((t.length:Nat):Int) (i:Int) out k mp rem t=rec47 (out ++ (t.drop i).map (rdK k)) mp rem
 | 0,_,_,_,h,_=>absurd h (Nat.not_lt_zero _)
 | m + 1,i,out,h1,h,hB=>by
  show B_lineage_Reads_5 rec47 (L_lineage_Reads_5 rec47 m) _ _ out k mp rem t=_
  unfold B_lineage_Reads_5
  have k0:k.l[0]?=some (g0 k):=List.getElem?_eq_getElem _
  have k1:k.l[1]?=some (g1 k):=List.getElem?_eq_getElem _
  by_cases hlt:i < t.length
  ·rw [lt_t hlt,q_if1,q_gdT (by omega),q_gdT (by omega),Int.toNat_natCast,q_gn (getn hlt),q_gn k0,q_gn k1,q_gl,q_gdT (by simp only [List.length_cons,List.length_nil];omega),q_ck (by omega) (by omega),q_gl,q_gl,show ((i:Int) + 1)=((i + 1:Nat):Int) by omega]
   rw [l5_loop ht m (i + 1) _ (by omega) (by omega) (by simp;omega),List.drop_eq_getElem_cons hlt,List.map_cons]
   simp [rdK]
  ·rw [lt_f hlt,q_if0,List.drop_of_length_le (by omega),q_gl]
   simp
end
def Apt (l:List Rd):Prop:=l.Pairwise fun x y=>(ltOf cfR x y || ltOf cfR y x)=true
theorem apart_of:∀ {l:List Rd},Apt l->apart (ltOf cfR) l=true
 | [],_=>rfl
 | x :: l,h=>by
  have h:=List.pairwise_cons.1 h
  unfold apart
  rw [Bool.and_eq_true,List.all_eq_true]
  exact ⟨h.1,apart_of h.2⟩
theorem Apt.perm {l l':List Rd} (h:Apt l) (hp:l.Perm l'):Apt l' :=
 (List.Perm.pairwise_iff (fun {a b} (q:(ltOf cfR a b || ltOf cfR b a)=true)=>by rw [Bool.or_comm];exact q) hp).1 h
theorem srtR_perm {l l':List Rd} (h:Apt l) (hp:l.Perm l'):srtF (ltOf cfR) l=srtF (ltOf cfR) l' :=
 srtF_unique swoR (apart_of h) ((srtF_perm _ l').trans hp.symm) (srtF_sorted swoR l')
theorem perm_erase {α:Type}:∀ {l:List α} {j:Nat} {k:α},l[j]?=some k->l.Perm (k :: l.eraseIdx j)
 | [],j,k,h=>by simp at h
 | x :: l,0,k,h=>by simp at h;subst h;exact .refl _
 | x :: l,j + 1,k,h=>by
  have h:l[j]?=some k:=by simpa using h
  exact ((perm_erase h).cons x).trans (.swap k x _)
theorem l4_loop {N:Nat} {mp:MP} {B:Nat} (hN:4 <= N) (hw:Wd mp B) (hBN:B < N) (hB:B <= 1000000) (hn:(mp.map (·.1)).Nodup):∀ (m:Nat) (out:List Rd) (rem:List (Arr 2)),rem.length < m->rem.Nodup->(∀ k ∈ rem,∃ v,mGet mp k=some v) ->
  out.length + rem.length * B <= 1000000000000->Apt (out ++ flatM mp rem) ->
  L_lineage_Reads_4 N m out mp rem=some (0,srtF (ltOf cfR) (out ++ flatM mp rem))
 | 0,_,_,h,_,_,_,_=>absurd h (Nat.not_lt_zero _)
 | m + 1,out,rem,h,hnd,hex,hsz,hap=>by
  show B_lineage_Reads_4 N (L_lineage_Reads_4 N m) out mp rem=_
  unfold B_lineage_Reads_4
  refine q_nx (fun e=>?_) (fun j k hj=>?_)
  ·subst e
   have e1:flatM mp []=[]:=rfl
   rw [e1,List.append_nil] at hap |-
   have ha:=apart_of hap
   have e2:G_slices_SortFunc_Read_Read N out=some (srtF (ltOf cfR) out):=by
    unfold G_slices_SortFunc_Read_Read
    rw [if_pos ⟨by omega,hN⟩]
    unfold sortF
    rw [ha]
   have e3:(srtF (ltOf cfR) out).length=out.length:=(srtF_perm _ out).length_eq
   rw [q_gl,e2]
   simp only [q_bd]
   rw [q_glT e3.symm]
  ·have hjl:j < rem.length:=by
    rcases Nat.lt_or_ge j rem.length with q | q
    ·exact q
    ·rw [List.getElem?_eq_none q] at hj;cases hj
   have hp:=perm_erase hj
   have hnd2:(k :: rem.eraseIdx j).Nodup:=hp.nodup_iff.1 hnd
   have hk:k ∈ rem:=hp.mem_iff.2 List.mem_cons_self
   obtain ⟨v,hv⟩:=hex k hk
   have hvB:v.length <= B:=hw.row _ (mGet_mem hv)
   have hlenE:rem.length=(rem.eraseIdx j).length + 1:=by rw [hp.length_eq];rfl
   rw [q_gdT (List.nodup_cons.1 hnd2).1,hv]
   simp only [q_bd]
   rw [q_gl,join_eq (by omega) (by omega)]
   simp only [q_bd]
   rw [q_gl,q_gl]
   have hrl:=rowsK_len k v
   unfold rowsK at hrl
   rw [List.length_map] at hrl
   have hmul:rem.length * B=(rem.eraseIdx j).length * B + B:=by rw [hlenE,Nat.succ_mul]
   have e1:=l5_loop (rec47:=L_lineage_Reads_4 N m) (mp:=mp) (rem:=rem.eraseIdx j) (k:=k) (t:=mg0 (sortF (0,0) (ltOf cfT) v)) (by omega) N 0 out (Nat.zero_le _) (by omega) (by omega)
   refine Eq.trans e1 ?_
   rw [List.drop_zero]
   have hfl:(out ++ flatM mp rem).Perm ((out ++ rowsK k v) ++ flatM mp (rem.eraseIdx j)):=by
    rw [List.append_assoc]
    refine List.Perm.append_left _ ?_
    have:(flatM mp rem).Perm (flatM mp (k :: rem.eraseIdx j)):=List.Perm.flatMap_right _ hp
    refine this.trans ?_
    show (rowsK k ((mGet mp k).getD []) ++ flatM mp (rem.eraseIdx j)).Perm _
    rw [hv];exact .refl _
   rw [srtR_perm hap hfl]
   refine l4_loop hN hw hBN hB hn m _ _ (by omega) (List.nodup_cons.1 hnd2).2 (fun k' hk'=>hex k' (hp.mem_iff.2 (List.mem_cons_of_mem _ hk'))) ?_ (hap.perm hfl)
   rw [List.length_append,List.length_map];omega
theorem nodup_addK {mp:MP} (h:(mp.map (·.1)).Nodup) (x:Rd) (j:Nat):((addK mp x j).map (·.1)).Nodup:=by
 unfold addK
 split
 ·exact mSet_nodup h
 ·exact h
theorem nodup_addL:∀ {rs:List Rd} {mp:MP},(mp.map (·.1)).Nodup->((rs.foldl addR mp).map (·.1)).Nodup
 | [],_,h=>h
 | x :: r,_,h=>nodup_addL (rs:=r) (nodup_addK (nodup_addK (nodup_addK (nodup_addK h x 0) x 1) x 2) x 3)
def ndl:List De->MB->List De
 | [],_=>[]
 | d :: r,need=>if has need d.1=true then d :: ndl r (inM need d.2.2) else ndl r need
theorem back_eq:∀ (r:List De) (need:MB) (mp:MP),back r need mp=((ndl r need).flatMap (·.2.1)).foldl addR mp
 | [],_,_=>rfl
 | d :: r,need,mp=>by
  unfold back ndl
  split
  ·rw [List.flatMap_cons,List.foldl_append,back_eq r]
  ·exact back_eq r _ _
theorem ndl_sub:∀ {r:List De} {need:MB} {d:De},d ∈ ndl r need->d ∈ r
 | [],_,_,h=>by cases h
 | x :: r,need,d,h=>by
  unfold ndl at h
  split at h
  ·rcases List.mem_cons.1 h with rfl | h
   ·exact List.mem_cons_self
   ·exact List.mem_cons_of_mem _ (ndl_sub h)
  ·exact List.mem_cons_of_mem _ (ndl_sub h)
theorem ndl_len:∀ (r:List De) (need:MB),(ndl r need).length <= r.length
 | [],_=>Nat.le_refl _
 | x :: r,need=>by
  unfold ndl
  split
  ·have:=ndl_len r (inM need x.2.2);simp;omega
  ·have:=ndl_len r need;simp;omega
theorem mem_addK {mp:MP} {x:Rd} {j:Nat} {k:Arr 2} {t:Tk}:t ∈ (mGet (addK mp x j) k).getD [] ↔ t ∈ (mGet mp k).getD []\/(hasK x j=true/\kyr x j=k/\t=x.2.2):=by
 unfold addK
 by_cases h:hasK x j=true
 ·rw [if_pos h,mGet_set]
  by_cases hk:k=kyr x j
  ·rw [if_pos hk,hk]
   simp only [Option.getD_some,List.mem_append,List.mem_singleton]
   constructor
   ·rintro (q | q)
    ·exact .inl q
    ·exact .inr ⟨h,trivial,q⟩
   ·rintro (q | ⟨_,_,q⟩)
    ·exact .inl q
    ·exact .inr q
  ·rw [if_neg hk]
   constructor
   ·exact .inl
   ·rintro (q | ⟨_,q,_⟩)
    ·exact q
    ·exact absurd q.symm hk
 ·rw [if_neg h]
  constructor
  ·exact .inl
  ·rintro (q | ⟨q,_⟩)
   ·exact q
   ·exact absurd q h
def puts (x:Rd) (k:Arr 2):Prop:=∃ j,j <= 3/\hasK x j=true/\kyr x j=k
theorem mem_addR {mp:MP} {x:Rd} {k:Arr 2} {t:Tk}:t ∈ (mGet (addR mp x) k).getD [] ↔ t ∈ (mGet mp k).getD []\/(puts x k/\t=x.2.2):=by
 unfold addR
 rw [mem_addK,mem_addK,mem_addK,mem_addK]
 constructor
 ·rintro ((((q | ⟨a,b,c⟩) | ⟨a,b,c⟩) | ⟨a,b,c⟩) | ⟨a,b,c⟩)
  ·exact .inl q
  ·exact .inr ⟨⟨0,by omega,a,b⟩,c⟩
  ·exact .inr ⟨⟨1,by omega,a,b⟩,c⟩
  ·exact .inr ⟨⟨2,by omega,a,b⟩,c⟩
  ·exact .inr ⟨⟨3,by omega,a,b⟩,c⟩
 ·rintro (q | ⟨⟨j,hj,a,b⟩,c⟩)
  ·exact .inl (.inl (.inl (.inl q)))
  ·match j,hj with
   | 0,_=>exact .inl (.inl (.inl (.inr ⟨a,b,c⟩)))
   | 1,_=>exact .inl (.inl (.inr ⟨a,b,c⟩))
   | 2,_=>exact .inl (.inr ⟨a,b,c⟩)
   | 3,_=>exact .inr ⟨a,b,c⟩
theorem mem_addL {k:Arr 2} {t:Tk}:∀ {rs:List Rd} {mp:MP},t ∈ (mGet (rs.foldl addR mp) k).getD [] ↔ t ∈ (mGet mp k).getD []\/∃ x ∈ rs,puts x k/\t=x.2.2
 | [],mp=>by simp
 | x :: r,mp=>by
  rw [List.foldl_cons,mem_addL (rs:=r),mem_addR]
  constructor
  ·rintro ((q | q) | ⟨y,hy,q⟩)
   ·exact .inl q
   ·exact .inr ⟨x,List.mem_cons_self,q⟩
   ·exact .inr ⟨y,List.mem_cons_of_mem _ hy,q⟩
  ·rintro (q | ⟨y,hy,q⟩)
   ·exact .inl (.inl q)
   ·rcases List.mem_cons.1 hy with rfl | hy
    ·exact .inl (.inr q)
    ·exact .inr ⟨y,hy,q⟩
def prts (l:List De) (id:Int):MP:=back (l.take (cnt l id + 1)).reverse (mSet [] id true) []
def keysM (mp:MP):List (Arr 2):=mp.map (·.1)
def rds (l:List De) (id:Int):List Rd:=srtF (ltOf cfR) (flatM (prts l id) (keysM (prts l id)))
def needs (l:List De) (id:Int):List De:=ndl (l.take (cnt l id + 1)).reverse (mSet [] id true)
theorem prts_eq (l:List De) (id:Int):prts l id=((needs l id).flatMap (·.2.1)).foldl addR []:=back_eq _ _ _
theorem prts_nodup (l:List De) (id:Int):(keysM (prts l id)).Nodup:=by
 rw [prts_eq]
 exact nodup_addL (by simp)
theorem mem_prts {l:List De} {id:Int} {k:Arr 2} {t:Tk}:t ∈ (mGet (prts l id) k).getD [] ↔ ∃ d ∈ needs l id,∃ x ∈ d.2.1,puts x k/\t=x.2.2:=by
 rw [prts_eq,mem_addL]
 constructor
 ·rintro (q | ⟨x,hx,q⟩)
  ·simp [mGet] at q
  ·obtain ⟨d,hd,hx⟩:=List.mem_flatMap.1 hx
   exact ⟨d,hd,x,hx,q⟩
 ·rintro ⟨d,hd,x,hx,q⟩
  exact .inr ⟨x,List.mem_flatMap.2 ⟨d,hd,hx⟩,q⟩
theorem needs_mem {l:List De} {id:Int} {d:De} (h:d ∈ needs l id):d ∈ l:=List.mem_of_mem_take (List.mem_reverse.1 (ndl_sub h))
theorem flatMap_len {α β:Type} {f:α->List β} {B:Nat}:∀ {l:List α},(∀ x ∈ l,(f x).length <= B)->(l.flatMap f).length <= l.length * B
 | [],_=>by simp
 | x :: l,h=>by
  have h1:=h x List.mem_cons_self
  have h2:=flatMap_len (f:=f) (B:=B) (l:=l) fun y hy=>h y (List.mem_cons_of_mem _ hy)
  rw [List.flatMap_cons,List.length_append,List.length_cons,Nat.succ_mul];omega
theorem prts_wd {l:List De} {id:Int} {R:Nat} (hR:∀ d ∈ l,d.2.1.length <= R):Wd (prts l id) (4 * (l.length * R)):=by
 rw [prts_eq]
 have h0:Wd ([]:MP) 0:=⟨Nat.le_refl _,fun _ h=>by cases h⟩
 have h1:=h0.addL (rs:=(needs l id).flatMap (·.2.1))
 have h2:((needs l id).flatMap (·.2.1)).length <= (needs l id).length * R:=flatMap_len fun d hd=>hR d (needs_mem hd)
 have h3:(needs l id).length <= l.length:=by
  have:=ndl_len (l.take (cnt l id + 1)).reverse (mSet [] id true)
  rw [List.length_reverse,List.length_take] at this
  unfold needs;omega
 have h4:=Nat.mul_le_mul_right R h3
 exact h1.mono (by omega)
theorem mg0_ok {v:List Tk} (h:∀ t ∈ v,t.1 < t.2):(mg0 (sortF (0,0) (ltOf cfT) v)).Pairwise (fun a b=>a.2 < b.1)/\(∀ t ∈ mg0 (sortF (0,0) (ltOf cfT) v),t.1 < t.2)/\∀ x,cov (mg0 (sortF (0,0) (ltOf cfT) v)) x ↔ cov v x:=by
 obtain ⟨p1,p2⟩:=sortF_ok ((0,0):Tk) swoT v
 have h1:(sortF (0,0) (ltOf cfT) v).Pairwise (fun a b=>a.1 <= b.1):=p2.imp fun {a b} q=>by
  rw [ltT] at q
  have:=of_decide_eq_false q
  omega
 obtain ⟨i1,i2,i3⟩:=mg0_spec h1 fun t ht=>h t (p1.mem_iff.1 ht)
 refine ⟨i1,i2,fun x=>(i3 x).trans ?_⟩
 unfold cov
 constructor
 ·rintro ⟨t,ht,q⟩;exact ⟨t,p1.mem_iff.1 ht,q⟩
 ·rintro ⟨t,ht,q⟩;exact ⟨t,p1.mem_iff.2 ht,q⟩
def Fwd (mp:MP):Prop:=∀ k,∀ t ∈ (mGet mp k).getD [],t.1 < t.2
theorem rowsK_apt {k:Arr 2} {v:List Tk} (h:∀ t ∈ v,t.1 < t.2):Apt (rowsK k v):=by
 obtain ⟨i1,i2,_⟩:=mg0_ok h
 unfold rowsK Apt
 rw [List.pairwise_map]
 refine List.Pairwise.imp_of_mem (fun {a b} ha hb q=>?_) i1
 have:=i2 a ha
 rw [ltR,Bool.or_eq_true,decide_eq_true_eq]
 exact .inl (.inr ⟨rfl,.inr ⟨rfl,by show a.1 < b.1;omega⟩⟩)
theorem flatM_apt {mp:MP} (h:Fwd mp):∀ {ks:List (Arr 2)},ks.Nodup->Apt (flatM mp ks)
 | [],_=>List.Pairwise.nil
 | k :: ks,hn=>by
  have hn:=List.nodup_cons.1 hn
  show Apt (rowsK k _ ++ flatM mp ks)
  refine List.pairwise_append.2 ⟨rowsK_apt (h k),flatM_apt h hn.2,fun x hx y hy=>?_⟩
  obtain ⟨t,_,rfl⟩:=List.mem_map.1 hx
  obtain ⟨k',hk',hy⟩:=List.mem_flatMap.1 hy
  obtain ⟨u,_,rfl⟩:=List.mem_map.1 hy
  have hne:k ≠ k':=fun e=>hn.1 (e ▸ hk')
  have hne:¬ (g0 k=g0 k'/\g1 k=g1 k'):=fun q=>hne (arr_eq q.1 q.2)
  rw [ltR,ltR,Bool.or_eq_true,decide_eq_true_eq,decide_eq_true_eq]
  unfold lessR rdK
  simp only
  omega
theorem rds_lt {l:List De} (hr:∀ d ∈ l,rightB d=true) {d:De} (hd:d ∈ l) {x:Rd} (hx:x ∈ d.2.1):0 <= x.1/\x.1 < 40/\0 <= x.2.2.1/\x.2.2.1 < x.2.2.2/\x.2.2.2 <= 1402560/\0 < x.2.1/\(bits .andNot .i64 x.2.1 15)=0:=by
 have:=hr d hd
 unfold rightB at this
 simp only [Bool.and_eq_true] at this
 have h:=this.1.2
 rw [Bool.not_eq_true',List.any_eq_false] at h
 have h:=h x hx
 unfold badR at h
 simp only [Bool.or_eq_true,decide_eq_true_eq,not_or,bne_iff_ne,ne_eq,Decidable.not_not] at h
 obtain ⟨⟨⟨⟨⟨⟨a,b⟩,c⟩,d⟩,e⟩,f⟩,g⟩:=h
 exact ⟨by omega,by omega,by omega,by omega,by omega,by omega,g⟩
theorem prts_fwd {l:List De} (hr:∀ d ∈ l,rightB d=true) (id:Int):Fwd (prts l id):=fun k t ht=>by
 obtain ⟨d,hd,x,hx,_,rfl⟩:=mem_prts.1 ht
 exact (rds_lt hr (needs_mem hd) hx).2.2.2.1
theorem okL_right:∀ {r pre:List De},okL pre r=true->∀ d ∈ r,rightB d=true:=by
 intro r
 induction r with
 | nil=>intro _ _ d hd;cases hd
 | cons e r ih =>
  intro pre h d hd
  unfold okL at h
  rw [Bool.and_eq_true] at h
  rcases List.mem_cons.1 hd with rfl | hd
  ·have:=h.1
   unfold okD at this
   simp only [Bool.and_eq_true] at this
   exact this.1.2
  ·exact ih h.2 d hd
theorem chk_right {l:List De} (h:chk l=0):∀ d ∈ l,rightB d=true:=okL_right (chk_ok h)
theorem reads_eq {N:Nat} {l:List De} {R:Nat} (hf:Few N l) (hR:∀ d ∈ l,d.2.1.length <= R) (hR0:R <= 100) (ho:∀ d ∈ l,d.2.2.length <= 4000000000000) (hN:4 * (l.length * R) < N) (hN5:5 <= N) (hl:l.length <= 2500) (id:Int) :
  G_lineage_Reads N l id=some (if chk l=0 then if id ∈ ids l then (0,rds l id) else (8,[]) else (chk l,[])):=by
 unfold G_lineage_Reads
 rw [check_eq hf]
 simp only [q_bd]
 by_cases h:chk l=0
 ·have hs:=chk_srt h
  rw [h,at_eq hs hf.big hf.len,if_pos rfl]
  simp only [bne_self_eq_false,q_if0,q_bd]
  by_cases hid:id ∈ ids l
  ·rw [decide_eq_true hid,if_pos hid,q_ifn,q_if1]
   obtain ⟨hc,_⟩:=(cnt_found hs).2 hid
   have hlR:l.length * R <= 2500 * 100:=Nat.mul_le_mul hl hR0
   have e1:=reads0_loop (N:=N) (l:=l) hN5 (by omega) (fun d hd=>⟨by have:=hR d hd;omega,(hf.rd d hd).1,(hf.of d hd).1,ho d hd⟩) N (cnt l id + 1) (mSet [] id true) [] 0 (by omega) (by have:=hf.len;omega) ⟨Nat.le_refl _,fun _ h=>by cases h⟩ (by omega)
   rw [show (((cnt l id:Nat):Int))=(((cnt l id + 1:Nat):Int) - 1) by omega,e1]
   have hw:=prts_wd (id:=id) hR
   have hnd:=prts_nodup l id
   have hap:=flatM_apt (prts_fwd (chk_right h) id) hnd
   have hkl:(keysM (prts l id)).length <= 4 * (l.length * R):=by unfold keysM;rw [List.length_map];exact hw.len
   have hm:=Nat.mul_le_mul hkl (Nat.le_refl (4 * (l.length * R)))
   have hm2:(4 * (l.length * R)) * (4 * (l.length * R)) <= 1000000 * 1000000:=Nat.mul_le_mul (by omega) (by omega)
   have e2:=l4_loop (N:=N) (mp:=prts l id) (by omega) hw hN (by omega) hnd N [] (keysM (prts l id)) (by omega) hnd (fun k hk=>by
    obtain ⟨e,he,rfl⟩:=List.mem_map.1 hk
    exact ⟨e.2,mGet_of hnd he⟩) (by simp only [List.length_nil];omega) (by rw [List.nil_append];exact hap)
   exact e2
  ·rw [decide_eq_false hid,if_neg hid,q_ifn,q_if0]
 ·rw [if_neg h,show (chk l != 0)=true by simpa using h];rfl
theorem mem_rds {l:List De} {id:Int} {x:Rd}:x ∈ rds l id ↔ ∃ k,x ∈ rowsK k ((mGet (prts l id) k).getD []):=by
 unfold rds
 rw [(srtF_perm _ _).mem_iff]
 unfold flatM
 rw [List.mem_flatMap]
 constructor
 ·rintro ⟨k,_,q⟩;exact ⟨k,q⟩
 ·rintro ⟨k,q⟩
  refine ⟨k,?_,q⟩
  cases e:mGet (prts l id) k with
  | none=>rw [e] at q;have:=rowsK_len k (Option.getD (none:Option (List Tk)) []);rw [List.eq_nil_of_length_eq_zero (Nat.le_zero.1 this)] at q;cases q
  | some v=>exact List.mem_map.2 ⟨_,mGet_mem e,rfl⟩
def covR (rs:List Rd) (g kb t:Int):Prop:=∃ x ∈ rs,x.1=g/\x.2.1=kb/\x.2.2.1 <= t/\t < x.2.2.2
theorem g_kyr (x:Rd) (j:Nat):g0 (kyr x j)=x.1/\g1 (kyr x j)=1 * 2 ^ j:=by
 unfold g0 g1
 simp only [kyr_l]
 exact ⟨rfl,rfl⟩
theorem rds_cov {l:List De} (hr:∀ d ∈ l,rightB d=true) {id g kb t:Int}:covR (rds l id) g kb t ↔ ∃ d ∈ needs l id,∃ x ∈ d.2.1,x.1=g/\(∃ j,j <= 3/\hasK x j=true/\1 * 2 ^ j=kb)/\x.2.2.1 <= t/\t < x.2.2.2:=by
 constructor
 ·rintro ⟨x,hx,rfl,rfl,h1,h2⟩
  obtain ⟨k,hx⟩:=mem_rds.1 hx
  obtain ⟨u,hu,rfl⟩:=List.mem_map.1 hx
  obtain ⟨v,hv,q⟩:=((mg0_ok (prts_fwd hr id k)).2.2 t).1 ⟨u,hu,h1,h2⟩
  obtain ⟨d,hd,y,hy,⟨j,hj,a,b⟩,rfl⟩:=mem_prts.1 hv
  subst b
  exact ⟨d,hd,y,hy,(g_kyr y j).1.symm,⟨j,hj,a,(g_kyr y j).2.symm⟩,q⟩
 ·rintro ⟨d,hd,y,hy,rfl,⟨j,hj,a,rfl⟩,q⟩
  have hm:y.2.2 ∈ (mGet (prts l id) (kyr y j)).getD []:=mem_prts.2 ⟨d,hd,y,hy,⟨j,hj,a,rfl⟩,rfl⟩
  obtain ⟨u,hu,q2⟩:=((mg0_ok (prts_fwd hr id (kyr y j))).2.2 t).2 ⟨y.2.2,hm,q⟩
  exact ⟨rdK (kyr y j) u,mem_rds.2 ⟨kyr y j,List.mem_map.2 ⟨u,hu,rfl⟩⟩,(g_kyr y j).1,(g_kyr y j).2,q2⟩
theorem rds_fwd {l:List De} (hr:∀ d ∈ l,rightB d=true) {id:Int} {x:Rd} (hx:x ∈ rds l id):x.2.2.1 < x.2.2.2:=by
 obtain ⟨k,hx⟩:=mem_rds.1 hx
 obtain ⟨u,hu,rfl⟩:=List.mem_map.1 hx
 exact (mg0_ok (prts_fwd hr id k)).2.1 u hu
inductive Aff (l:List De) (T:De->Prop):De->Prop
 | own {d:De}:d ∈ l->T d->Aff l T d
 | of {d e:De}:d ∈ l->Aff l T e->e.1 ∈ d.2.2->Aff l T d
theorem Aff.mem {l:List De} {T:De->Prop} {d:De} (h:Aff l T d):d ∈ l:=by cases h <;> assumption
theorem Aff.imp {l:List De} {T U:De->Prop} (hTU:∀ d,T d->U d) {d:De} (h:Aff l T d):Aff l U d:=by
 induction h with
 | own hd h=>exact .own hd (hTU _ h)
 | of hd _ ho ih=>exact .of hd ih ho
theorem Aff.trans {l:List De} {T U:De->Prop} (hTU:∀ d,T d->Aff l U d) {d:De} (h:Aff l T d):Aff l U d:=by
 induction h with
 | own hd h=>exact hTU _ h
 | of hd _ ho ih=>exact .of hd ih ho
theorem srt_inj {l:List De} (hs:Srt l) {i j:Nat} (hi:i < l.length) (hj:j < l.length) (h:l[i].1=l[j].1):i=j:=by
 rcases Nat.lt_trichotomy i j with q | q | q
 ·have:=srt_lt hs hj q;omega
 ·exact q
 ·have:=srt_lt hs hi q;omega
theorem aff_iff {l:List De} (hc:chk l=0) {T:De->Prop} {k:Nat} (hk:k < l.length):Aff l T l[k] ↔ T l[k]\/∃ j,∃ hj:j < l.length,j < k/\l[j].1 ∈ l[k].2.2/\Aff l T l[j]:=by
 have hs:=chk_srt hc
 constructor
 ·intro h
  generalize hd:l[k]=d at h
  cases h with
  | own _ h=>exact .inl h
  | of _ he ho =>
   rename_i e hm
   subst hd
   obtain ⟨j,hj,q1,q2⟩:=mem_take (chk_of hc hk _ ho)
   obtain ⟨i,hi,rfl⟩:=List.getElem_of_mem he.mem
   have:=srt_inj hs hj hi q2
   subst this
   exact .inr ⟨j,hj,q1,ho,he⟩
 ·rintro (h | ⟨j,hj,_,ho,h⟩)
  ·exact .own (List.getElem_mem hk) h
  ·exact .of (List.getElem_mem hk) h ho
theorem clo_run2 {l:List De} (hc:chk l=0) {T:De->Prop}:∀ (n k:Nat) (mp:MB),l.length - k=n->(∀ j (hj:j < l.length),j < k->(has mp l[j].1=true ↔ Aff l T l[j]))->(∀ j (hj:j < l.length),k <= j->(has mp l[j].1=true ↔ T l[j])) ->
  ∀ x,x ∈ clo (l.drop k) mp ↔ ∃ j,∃ hj:j < l.length,k <= j/\l[j].1=x/\Aff l T l[j]
 | 0,k,mp,hn,_,_,x=>by
  rw [List.drop_of_length_le (by omega)]
  constructor
  ·intro h;cases h
  ·rintro ⟨j,hj,q,_⟩;omega
 | n + 1,k,mp,hn,h1,h2,x=>by
  have hk:k < l.length:=by omega
  have hs:=chk_srt hc
  have hdue:(has mp l[k].1 || l[k].2.2.any (has mp))=true ↔ Aff l T l[k]:=by
   rw [aff_iff hc hk,Bool.or_eq_true,List.any_eq_true (l:=l[k].2.2),h2 k hk (Nat.le_refl _)]
   constructor
   ·rintro (h | ⟨o,ho,h⟩)
    ·exact .inl h
    ·obtain ⟨j,hj,q1,q2⟩:=mem_take (chk_of hc hk o ho)
     subst q2
     exact .inr ⟨j,hj,q1,ho,(h1 j hj q1).1 h⟩
   ·rintro (h | ⟨j,hj,q,ho,h⟩)
    ·exact .inl h
    ·exact .inr ⟨_,ho,(h1 j hj q).2 h⟩
  rw [List.drop_eq_getElem_cons hk,clo]
  cases hd:(has mp l[k].1 || l[k].2.2.any (has mp)) with
  | true =>
   have hA:=hdue.1 hd
   rw [if_pos rfl,List.mem_cons]
   have ih:=clo_run2 hc (T:=T) n (k + 1) (mSet mp l[k].1 true) (by omega) (fun j hj hjk=>by
    rw [has_set]
    by_cases e:j=k
    ·subst e;rw [if_pos rfl];exact ⟨fun _=>hA,fun _=>rfl⟩
    ·rw [if_neg (fun q=>e (srt_inj hs hj hk q))]
     exact h1 j hj (by omega)) (fun j hj hjk=>by
    rw [has_set,if_neg (fun q=>by have:=srt_inj hs hj hk q;omega)]
    exact h2 j hj (by omega)) x
   rw [ih]
   constructor
   ·rintro (rfl | ⟨j,hj,q,r⟩)
    ·exact ⟨k,hk,Nat.le_refl _,rfl,hA⟩
    ·exact ⟨j,hj,by omega,r⟩
   ·rintro ⟨j,hj,q,r1,r2⟩
    by_cases e:j=k
    ·subst e;exact .inl r1.symm
    ·exact .inr ⟨j,hj,by omega,r1,r2⟩
  | false =>
   have hA:¬ Aff l T l[k]:=fun q=>by rw [hdue.2 q] at hd;cases hd
   rw [if_neg Bool.false_ne_true]
   have ih:=clo_run2 hc (T:=T) n (k + 1) mp (by omega) (fun j hj hjk=>by
    by_cases e:j=k
    ·subst e
     rw [Bool.or_eq_false_iff] at hd
     rw [hd.1]
     exact ⟨(by intro h;cases h),fun q=>absurd q hA⟩
    ·exact h1 j hj (by omega)) (fun j hj hjk=>h2 j hj (by omega)) x
   rw [ih]
   constructor
   ·rintro ⟨j,hj,q,r⟩;exact ⟨j,hj,by omega,r⟩
   ·rintro ⟨j,hj,q,r1,r2⟩
    have e:j ≠ k:=fun e=>by subst e;exact hA r2
    exact ⟨j,hj,by omega,r1,r2⟩
theorem clo_mem {l:List De} (hc:chk l=0) {mp:MB} {T:De->Prop} (hT:∀ j (hj:j < l.length),has mp l[j].1=true ↔ T l[j]) {x:Int}:x ∈ clo l mp ↔ ∃ j,∃ hj:j < l.length,l[j].1=x/\Aff l T l[j]:=by
 have:=clo_run2 hc (T:=T) l.length 0 mp (by omega) (fun j _ h=>absurd h (Nat.not_lt_zero _)) (fun j hj _=>hT j hj) x
 rw [List.drop_zero] at this
 rw [this]
 constructor
 ·rintro ⟨j,hj,_,r⟩;exact ⟨j,hj,r⟩
 ·rintro ⟨j,hj,r⟩;exact ⟨j,hj,Nat.zero_le _,r⟩
theorem clo_at {l:List De} (hc:chk l=0) {mp:MB} {T:De->Prop} (hT:∀ j (hj:j < l.length),has mp l[j].1=true ↔ T l[j]) {k:Nat} (hk:k < l.length):l[k].1 ∈ clo l mp ↔ Aff l T l[k]:=by
 rw [clo_mem hc hT]
 constructor
 ·rintro ⟨j,hj,q,r⟩
  have:=srt_inj (chk_srt hc) hj hk q
  subst this;exact r
 ·intro r;exact ⟨k,hk,rfl,r⟩
theorem ndl_aff {l:List De} (hc:chk l=0) {T:De->Prop}:∀ (k:Nat) (need:MB),k <= l.length->((∃ e ∈ ndl (l.take k).reverse need,T e) ↔ ∃ j,∃ hj:j < l.length,j < k/\has need l[j].1=true/\Aff l T l[j])
 | 0,need,_=>by
  constructor
  ·rintro ⟨e,he,_⟩;simp [ndl] at he
  ·rintro ⟨j,_,h,_⟩;omega
 | k + 1,need,hk=>by
  have hk':k < l.length:=by omega
  have hrev:(l.take (k + 1)).reverse=l[k] :: (l.take k).reverse:=by rw [<- List.take_append_getElem hk',List.reverse_append];rfl
  rw [hrev,ndl]
  by_cases h:has need l[k].1=true
  ·rw [if_pos h]
   have ih:=ndl_aff hc (T:=T) k (inM need l[k].2.2) (by omega)
   constructor
   ·rintro ⟨e,he,ht⟩
    rcases List.mem_cons.1 he with rfl | he
    ·exact ⟨k,hk',by omega,h,.own (List.getElem_mem hk') ht⟩
    ·obtain ⟨j,hj,q1,q2,q3⟩:=ih.1 ⟨e,he,ht⟩
     rw [has_in,Bool.or_eq_true,decide_eq_true_eq] at q2
     rcases q2 with q2 | q2
     ·exact ⟨j,hj,by omega,q2,q3⟩
     ·exact ⟨k,hk',by omega,h,.of (List.getElem_mem hk') q3 q2⟩
   ·rintro ⟨j,hj,q1,q2,q3⟩
    by_cases e:j=k
    ·subst e
     rcases (aff_iff hc hj).1 q3 with q3 | ⟨i,hi,r1,r2,r3⟩
     ·exact ⟨_,List.mem_cons_self,q3⟩
     ·obtain ⟨e,he,ht⟩:=ih.2 ⟨i,hi,r1,by rw [has_in,Bool.or_eq_true,decide_eq_true_eq];exact .inr r2,r3⟩
      exact ⟨e,List.mem_cons_of_mem _ he,ht⟩
    ·obtain ⟨e,he,ht⟩:=ih.2 ⟨j,hj,by omega,by rw [has_in,q2];rfl,q3⟩
     exact ⟨e,List.mem_cons_of_mem _ he,ht⟩
  ·rw [if_neg h]
   have ih:=ndl_aff hc (T:=T) k need (by omega)
   rw [ih]
   constructor
   ·rintro ⟨j,hj,q,r⟩;exact ⟨j,hj,by omega,r⟩
   ·rintro ⟨j,hj,q1,q2,q3⟩
    have e:j ≠ k:=fun e=>by subst e;exact h q2
    exact ⟨j,hj,by omega,q2,q3⟩
theorem cnt_at {l:List De} (hs:Srt l) {k:Nat} (hk:k < l.length):cnt l l[k].1=k:=by
 obtain ⟨h,e⟩:=(cnt_found hs).2 (List.mem_map.2 ⟨l[k],List.getElem_mem hk,rfl⟩)
 exact srt_inj hs h hk e
theorem needs_aff {l:List De} (hc:chk l=0) {T:De->Prop} {k:Nat} (hk:k < l.length):(∃ e ∈ needs l l[k].1,T e) ↔ Aff l T l[k]:=by
 have hs:=chk_srt hc
 unfold needs
 rw [cnt_at hs hk,ndl_aff hc (k + 1) _ (by omega)]
 constructor
 ·rintro ⟨j,hj,_,q,r⟩
  rw [has_set] at q
  split at q
  ·rename_i e
   have:=srt_inj hs hj hk e
   subst this;exact r
  ·simp [has,mGet] at q
 ·intro r
  exact ⟨k,hk,by omega,by rw [has_set,if_pos rfl],r⟩
def aboveF (l:List De) (id:Int):List Int × Int:=if chk l=0 then if id ∈ ids l then ((clo l (mSet [] id true)).drop 1,0) else ([],8) else ([],chk l)
theorem one_has {l:List De} (hc:chk l=0) {k:Nat} (hk:k < l.length) (j:Nat) (hj:j < l.length):has (mSet [] l[k].1 true) l[j].1=true ↔ l[j]=l[k]:=by
 rw [has_set]
 constructor
 ·intro h
  split at h
  ·rename_i e
   have:=srt_inj (chk_srt hc) hj hk e
   subst this;rfl
  ·simp [has,mGet] at h
 ·intro e
  rw [e,if_pos rfl]
theorem clo_lenA:∀ (l:List De) (mp:MB),(clo l mp).length <= l.length
 | [],_=>Nat.le_refl _
 | d :: r,mp=>by
  unfold clo
  split
  ·have:=clo_lenA r (mSet mp d.1 true);simp;omega
  ·have:=clo_lenA r mp;simp;omega
theorem clo_sub:∀ (l:List De) (mp:MB),(clo l mp).Sublist (ids l)
 | [],_=>List.Sublist.refl _
 | d :: r,mp=>by
  unfold clo
  split
  ·exact (clo_sub r _).cons_cons _
  ·exact (clo_sub r _).cons _
theorem clo_srt {l:List De} (hs:Srt l) (mp:MB):(clo l mp).Pairwise (· < ·):=List.Pairwise.sublist (clo_sub l mp) hs
theorem aff_ge {l:List De} (hc:chk l=0) {k:Nat} (hk:k < l.length):∀ (j:Nat) (hj:j < l.length),Aff l (·=l[k]) l[j]->k <= j:=by
 intro j
 induction j using Nat.strongRecOn with
 | _ j ih =>
  intro hj h
  rcases (aff_iff hc hj).1 h with h | ⟨i,hi,q,_,r⟩
  ·have:=srt_inj (chk_srt hc) hj hk (by rw [h]);omega
  ·have:=ih i q hi r;omega
theorem above_clo {l:List De} (hc:chk l=0) {k:Nat} (hk:k < l.length):clo l (mSet [] l[k].1 true)=l[k].1 :: (clo l (mSet [] l[k].1 true)).drop 1:=by
 have hs:=chk_srt hc
 have hm:l[k].1 ∈ clo l (mSet [] l[k].1 true):=(clo_at hc (T:=(·=l[k])) (one_has hc hk) hk).2 (.own (List.getElem_mem hk) rfl)
 have hp:=clo_srt hs (mSet [] l[k].1 true)
 have hall:∀ x ∈ clo l (mSet [] l[k].1 true),l[k].1 <= x:=fun x hx=>by
  obtain ⟨j,hj,rfl,r⟩:=(clo_mem hc (T:=(·=l[k])) (one_has hc hk)).1 hx
  have:=aff_ge hc hk j hj r
  rcases Nat.lt_or_ge k j with q | q
  ·have:=srt_lt hs hj q;omega
  ·have:j=k:=by omega
   subst this;exact Int.le_refl _
 generalize clo l (mSet [] l[k].1 true)=c at *
 cases c with
 | nil=>cases hm
 | cons x r =>
  have h1:=hall x List.mem_cons_self
  have h2:x=l[k].1:=by
   rcases List.mem_cons.1 hm with e | e
   ·exact e.symm
   ·have:=List.rel_of_pairwise_cons hp e;omega
  rw [h2];rfl
theorem above_mem {l:List De} (hc:chk l=0) {k:Nat} (hk:k < l.length) {x:Int}:x ∈ (clo l (mSet [] l[k].1 true)).drop 1 ↔ ∃ j,∃ hj:j < l.length,k < j/\l[j].1=x/\Aff l (·=l[k]) l[j]:=by
 have hs:=chk_srt hc
 have hp:=clo_srt hs (mSet [] l[k].1 true)
 have hm:=clo_mem hc (T:=(·=l[k])) (one_has hc hk) (x:=x)
 have he:=above_clo hc hk
 constructor
 ·intro h
  rw [he] at hp hm
  have h1:=List.rel_of_pairwise_cons hp h
  obtain ⟨j,hj,rfl,r⟩:=hm.1 (List.mem_cons_of_mem _ h)
  have h2:=aff_ge hc hk j hj r
  refine ⟨j,hj,?_,rfl,r⟩
  rcases Nat.lt_or_ge k j with q | q
  ·exact q
  ·have:j=k:=by omega
   subst this;omega
 ·rintro ⟨j,hj,q,rfl,r⟩
  have:=hm.2 ⟨j,hj,rfl,r⟩
  rw [he] at this
  rcases List.mem_cons.1 this with e | e
  ·have:=srt_lt hs hj q;omega
  ·exact e
theorem above_eq {N:Nat} {l:List De} (hf:Few N l) (hl:l.length <= 17592186044415) (id:Int):G_lineage_Above N l id=some (aboveF l id):=by
 unfold G_lineage_Above aboveF
 rw [check_eq hf]
 simp only [q_bd]
 by_cases h:chk l=0
 ·have hs:=chk_srt h
  rw [h,at_eq hs hf.big hf.len,if_pos rfl]
  simp only [bne_self_eq_false,q_if0,q_bd]
  by_cases hid:id ∈ ids l
  ·rw [decide_eq_true hid,if_pos hid,q_ifn,q_if1,closure_eq hf hl]
   simp only [q_bd]
   obtain ⟨d,hd,rfl⟩:=List.mem_map.1 hid
   obtain ⟨k,hk,rfl⟩:=List.getElem_of_mem hd
   have hlen:1 <= (clo l (mSet [] l[k].1 true)).length:=by rw [above_clo h hk];simp
   rw [q_gdT hlen,q_gdT (Nat.le_refl _),q_gdT (by omega),List.take_of_length_le (by simp)]
  ·rw [decide_eq_false hid,if_neg hid,q_ifn,q_if0]
 ·rw [if_neg h,show (chk l != 0)=true by simpa using h];rfl
theorem cloneR_eq {N:Nat} {l:List Rd} (hl:l.length <= 4398046511104):G_slices_Clone_Read_Read N l=some l:=by
 unfold G_slices_Clone_Read_Read
 cases l with
 | nil=>rfl
 | cons a r =>
  have hp:0 < (a :: r).length:=by simp
  rw [decide_eq_true hp,q_if1,q_gdT (by omega),q_gl]
theorem cloneD_eq {N:Nat} {l:List De} (hl:l.length <= 2199023255552):G_slices_Clone_Derived_Derived N l=some l:=by
 unfold G_slices_Clone_Derived_Derived
 cases l with
 | nil=>rfl
 | cons a r =>
  have hp:0 < (a :: r).length:=by simp
  rw [decide_eq_true hp,q_if1,q_gdT (by omega),q_gl]
def lastGe (l:List De) (d:De):Bool:=match l.getLast? with
 | none=>false
 | some e=>decide (d.1 <= e.1)
def addF (l:List De) (d:De):Int × List De:=if chk l=0 then if rightB d=true then if lastGe l d=true then (9,[]) else if (d.2.2.all fun i=>decide (i ∈ ids l))=true then if 2000 <= l.length then (2,[]) else (0,l ++ [d]) else (8,[]) else (1,[]) else (chk l,[])
theorem add_eq {N:Nat} {l:List De} {d:De} (hf:Few N l) (hl:l.length <= 1000000) (hr:d.2.1.length <= 1000000) (ho:d.2.2.length <= 1000000) (h1:d.2.1.length < N) (h2:d.2.2.length < N):G_lineage_Add N l d=some (addF l d):=by
 unfold G_lineage_Add addF
 rw [check_eq hf]
 simp only [q_bd]
 by_cases h:chk l=0
 ·have hs:=chk_srt h
  rw [h,if_pos rfl,show G_lineage_right N (d.1,(d.2.1,d.2.2))=some (rightB d) from right_eq (d:=d) (by omega) (by omega) h1 h2]
  simp only [bne_self_eq_false,q_if0,q_bd,q_ifn]
  by_cases hb:rightB d=true
  ·rw [hb,q_if1,if_pos rfl]
   have e1:(if? (decide (((l.length:Nat):Int) > 0)) (ck .i64 ((((l.length:Nat):Int) - 1)) (get? l ((((l.length:Nat):Int) - 1)) fun x5=>some (l,decide (d.1 <= x5.1),d.1,d.2.1,d.2.2))) (some (l,false,d.1,d.2.1,d.2.2)))=some (l,lastGe l d,d.1,d.2.1,d.2.2):=by
    unfold lastGe
    by_cases hp:0 < l.length
    ·rw [decide_eq_true (show ((l.length:Nat):Int) > 0 by omega),q_if1,q_ck (by omega) (by omega),q_geti (x:=l[l.length - 1]) (by omega) (by rw [show (((l.length:Nat):Int) - 1).toNat=l.length - 1 by omega];exact getn (by omega)),List.getLast?_eq_getElem?,getn (show l.length - 1 < l.length by omega)]
    ·have:l=[]:=List.eq_nil_of_length_eq_zero (by omega)
     subst this;rfl
   rw [e1]
   simp only [q_bd]
   cases lastGe l d with
   | true=>rfl
   | false =>
    rw [q_if0,if_neg Bool.false_ne_true,known_eq hs hf.big hf.len (by omega) h2]
    simp only [q_bd,q_ifn]
    cases (d.2.2.all fun i=>decide (i ∈ ids l)) with
    | false=>rfl
    | true =>
     rw [q_if1,if_pos rfl]
     by_cases h20:2000 <= l.length
     ·rw [decide_eq_true (show ((l.length:Nat):Int) ≥ 2000 by omega),if_pos h20];rfl
     ·rw [decide_eq_false (show ¬ ((l.length:Nat):Int) ≥ 2000 by omega),if_neg h20,q_if0,cloneR_eq (by omega),cloneI_eq (by omega),cloneD_eq (by omega)]
      simp only [q_bd,q_gl]
      rw [q_gdT (by simp only [List.length_cons,List.length_nil];omega)]
  ·rw [if_neg hb]
   have:rightB d=false:=by simpa using hb
   rw [this];rfl
 ·rw [if_neg h,show (chk l != 0)=true by simpa using h];rfl
theorem okL_app:∀ {a pre b:List De},okL pre (a ++ b)=true->okL pre a=true
 | [],_,_,_=>rfl
 | x :: a,pre,b,h=>by
  rw [List.cons_append,okL,Bool.and_eq_true] at h
  rw [okL,Bool.and_eq_true]
  exact ⟨h.1,okL_app h.2⟩
theorem chk_take {l:List De} (h:chk l=0) (k:Nat):chk (l.take k)=0:=by
 have h1:=chk_ok h
 unfold chk at h
 split at h
 ·cases h
 ·rename_i hl
  unfold chk
  rw [if_neg (by rw [List.length_take];omega)]
  have:okL [] (l.take k ++ l.drop k)=true:=by rw [List.take_append_drop];exact h1
  rw [if_pos (okL_app this)]
theorem add_take {l:List De} (h:chk l=0) {k:Nat} (hk:k < l.length):addF (l.take k) l[k]=(0,l.take (k + 1)):=by
 have h1:=chk_at h hk
 unfold okD at h1
 rw [Bool.and_eq_true,Bool.and_eq_true] at h1
 obtain ⟨⟨a,b⟩,c⟩:=h1
 have hl:l.length <= 2000:=by
  unfold chk at h
  split at h
  ·cases h
  ·omega
 unfold addF
 rw [if_pos (chk_take h k),if_pos b]
 have hg:lastGe (l.take k) l[k]=false:=by
  unfold lastGe
  revert a
  cases (l.take k).getLast? with
  | none=>intro _;rfl
  | some e=>intro a;simpa using a
 rw [hg,if_neg Bool.false_ne_true,if_pos c,if_neg (by rw [List.length_take];omega),List.take_append_getElem hk]
def tot:MP->Nat
 | []=>0
 | e :: r=>e.2.length + tot r
theorem tot_set:∀ (mp:MP) (k:Arr 2) (x:Tk),tot (mSet mp k ((mGet mp k).getD [] ++ [x]))=tot mp + 1
 | [],k,x=>by simp [mSet,mGet,tot]
 | e :: r,k,x=>by
  unfold mSet mGet
  by_cases h:e.1=k
  ·rw [if_pos h,if_pos h]
   simp [tot];omega
  ·rw [if_neg h,if_neg h,tot,tot_set r k x,tot];omega
theorem tot_addK (mp:MP) (x:Rd) (j:Nat):tot (addK mp x j) <= tot mp + 1:=by
 unfold addK
 split
 ·rw [tot_set];exact Nat.le_refl _
 ·omega
theorem tot_addL:∀ (rs:List Rd) (mp:MP),tot (rs.foldl addR mp) <= tot mp + 4 * rs.length
 | [],_=>by simp
 | x :: r,mp=>by
  have h:=tot_addL r (addR mp x)
  have h1:=tot_addK mp x 0
  have h2:=tot_addK (addK mp x 0) x 1
  have h3:=tot_addK (addK (addK mp x 0) x 1) x 2
  have h4:=tot_addK (addK (addK (addK mp x 0) x 1) x 2) x 3
  rw [List.foldl_cons,List.length_cons]
  unfold addR at h
  unfold addR
  omega
theorem flat_tot:∀ (mp:MP),(mp.flatMap fun e=>rowsK e.1 e.2).length <= tot mp
 | []=>Nat.le_refl _
 | e :: r=>by
  have:=rowsK_len e.1 e.2
  have:=flat_tot r
  rw [List.flatMap_cons,List.length_append,tot];omega
theorem fm_congr {α β:Type} {f g:α->List β}:∀ {l:List α},(∀ x ∈ l,f x=g x)->l.flatMap f=l.flatMap g
 | [],_=>rfl
 | x :: l,h=>by rw [List.flatMap_cons,List.flatMap_cons,h x List.mem_cons_self,fm_congr fun y hy=>h y (List.mem_cons_of_mem _ hy)]
theorem flatM_keys {mp:MP} (h:(keysM mp).Nodup):flatM mp (keysM mp)=mp.flatMap fun e=>rowsK e.1 e.2:=by
 unfold flatM keysM
 rw [List.flatMap_map]
 exact fm_congr fun e he=>by rw [mGet_of h he];rfl
theorem rds_len {l:List De} {R:Nat} (hR:∀ d ∈ l,d.2.1.length <= R) (id:Int):(rds l id).length <= 4 * (l.length * R):=by
 unfold rds
 rw [(srtF_perm _ _).length_eq,flatM_keys (prts_nodup l id)]
 have h:=flat_tot (prts l id)
 rw [prts_eq] at h |-
 have h1:=tot_addL ((needs l id).flatMap (·.2.1)) []
 have h2:((needs l id).flatMap (·.2.1)).length <= (needs l id).length * R:=flatMap_len fun d hd=>hR d (needs_mem hd)
 have h3:(needs l id).length <= l.length:=by
  have:=ndl_len (l.take (cnt l id + 1)).reverse (mSet [] id true)
  rw [List.length_reverse,List.length_take] at this
  unfold needs;omega
 have h4:=Nat.mul_le_mul_right R h3
 have h5:tot ([]:MP)=0:=rfl
 omega
def sep (x y:Rd):Prop:=x.1 < y.1\/x.1=y.1/\(x.2.1 < y.2.1\/x.2.1=y.2.1/\x.2.2.2 < y.2.2.1)
theorem pw_mem {α:Type} {R:α->α->Prop}:∀ {l:List α},l.Pairwise R->∀ {x y:α},x ∈ l->y ∈ l->x=y\/R x y\/R y x
 | [],_,_,_,h,_=>by cases h
 | a :: l,h,x,y,hx,hy=>by
  have h:=List.pairwise_cons.1 h
  rcases List.mem_cons.1 hx with ex | hx
  ·rcases List.mem_cons.1 hy with ey | hy
   ·exact .inl (ex.trans ey.symm)
   ·rw [ex];exact .inr (.inl (h.1 y hy))
  ·rcases List.mem_cons.1 hy with ey | hy
   ·rw [ey];exact .inr (.inr (h.1 x hx))
   ·exact pw_mem h.2 hx hy
theorem rds_sep {l:List De} (hr:∀ d ∈ l,rightB d=true) (id:Int):(rds l id).Pairwise sep:=by
 have hs:=srtF_sorted swoR (flatM (prts l id) (keysM (prts l id)))
 have ha:Apt (rds l id):=(flatM_apt (prts_fwd hr id) (prts_nodup l id)).perm (srtF_perm _ _).symm
 have hs:(rds l id).Pairwise (fun a b=>ltOf cfR b a=false):=hs
 refine List.Pairwise.imp_of_mem (R:=fun a b=>ltOf cfR b a=false/\(ltOf cfR a b || ltOf cfR b a)=true) (fun {x y} hx hy q=>?_) (hs.and ha)
 obtain ⟨q1,q2⟩:=q
 rw [q1,Bool.or_false,ltR,decide_eq_true_eq] at q2
 unfold lessR at q2
 obtain ⟨k,hk⟩:=mem_rds.1 hx
 obtain ⟨u,hu,ex⟩:=List.mem_map.1 hk
 obtain ⟨k',hk'⟩:=mem_rds.1 hy
 obtain ⟨v,hv,ey⟩:=List.mem_map.1 hk'
 have a1:x.1=g0 k:=by rw [<- ex];rfl
 have a2:x.2.1=g1 k:=by rw [<- ex];rfl
 have a3:x.2.2.1=u.1:=by rw [<- ex];rfl
 have a4:x.2.2.2=u.2:=by rw [<- ex];rfl
 have b1:y.1=g0 k':=by rw [<- ey];rfl
 have b2:y.2.1=g1 k':=by rw [<- ey];rfl
 have b3:y.2.2.1=v.1:=by rw [<- ey];rfl
 unfold sep
 by_cases e:g0 k=g0 k'/\g1 k=g1 k'
 ·have ek:=arr_eq e.1 e.2
  subst ek
  obtain ⟨i1,i2,_⟩:=mg0_ok (prts_fwd hr id k)
  have hvv:=i2 v hv
  rcases pw_mem i1 hu hv with r | r | r
  ·subst r;omega
  ·omega
  ·omega
 ·omega
theorem sameReads_loop {a:List Rd} (hl:a.length <= 4611686018427387904):∀ (m k:Nat),k <= a.length->a.length - k < m->L_ref26_SameReads_0 m a a (k:Int)=some true
 | 0,_,_,h=>absurd h (Nat.not_lt_zero _)
 | m + 1,k,h1,h=>by
  show B_ref26_SameReads_0 (L_ref26_SameReads_0 m) a a _=_
  unfold B_ref26_SameReads_0
  by_cases hlt:k < a.length
  ·rw [lt_t hlt,q_if1,q_get (getn hlt),q_get (getn hlt)]
   simp only [beq_self_eq_true,andL,Bool.and_self,Bool.not_true,q_if0]
   rw [q_ck (by omega) (by omega),show ((k:Int) + 1)=((k + 1:Nat):Int) by omega]
   exact sameReads_loop hl m (k + 1) (by omega) (by omega)
  ·rw [lt_f hlt,q_if0]
theorem sameReads_eq {N:Nat} {a:List Rd} (hl:a.length <= 4611686018427387904) (hN:a.length < N):G_ref26_SameReads N a a=some true:=by
 unfold G_ref26_SameReads
 rw [bne_self_eq_false,q_if0]
 exact sameReads_loop hl N 0 (Nat.zero_le _) (by omega)
theorem sameInts_loop {a:List Int} (hl:a.length <= 4611686018427387904):∀ (m k:Nat),k <= a.length->a.length - k < m->L_ref26_SameInts_0 m a a (k:Int)=some true
 | 0,_,_,h=>absurd h (Nat.not_lt_zero _)
 | m + 1,k,h1,h=>by
  show B_ref26_SameInts_0 (L_ref26_SameInts_0 m) a a _=_
  unfold B_ref26_SameInts_0
  by_cases hlt:k < a.length
  ·rw [lt_t hlt,q_if1,q_get (getn hlt),q_get (getn hlt),bne_self_eq_false,q_if0,q_ck (by omega) (by omega),show ((k:Int) + 1)=((k + 1:Nat):Int) by omega]
   exact sameInts_loop hl m (k + 1) (by omega) (by omega)
  ·rw [lt_f hlt,q_if0]
theorem sameInts_eq {N:Nat} {a:List Int} (hl:a.length <= 4611686018427387904) (hN:a.length < N):G_ref26_SameInts N a a=some true:=by
 unfold G_ref26_SameInts
 rw [bne_self_eq_false,q_if0]
 exact sameInts_loop hl N 0 (Nat.zero_le _) (by omega)
theorem sameD_loop {N:Nat} {a:List De} (hf:Few N a):∀ (m k:Nat),k <= a.length->a.length - k < m->L_ref26_Same_0 N m a a (k:Int)=some true
 | 0,_,_,h=>absurd h (Nat.not_lt_zero _)
 | m + 1,k,h1,h=>by
  show B_ref26_Same_0 N (L_ref26_Same_0 N m) a a _=_
  unfold B_ref26_Same_0
  have hl:=hf.big
  by_cases hlt:k < a.length
  ·have hm:=List.getElem_mem hlt
   have hr:=hf.rd _ hm
   have ho:=hf.of _ hm
   rw [lt_t hlt,q_if1,q_get (getn hlt),q_get (getn hlt),sameReads_eq hr.2 hr.1]
   simp only [q_bd]
   rw [q_get (getn hlt),q_get (getn hlt),sameInts_eq ho.2 ho.1]
   simp only [q_bd,Bool.not_true,q_if0]
   rw [q_get (getn hlt),q_get (getn hlt),bne_self_eq_false]
   simp only [q_bd,q_if0]
   rw [q_ck (by omega) (by omega),show ((k:Int) + 1)=((k + 1:Nat):Int) by omega]
   exact sameD_loop hf m (k + 1) (by omega) (by omega)
  ·rw [lt_f hlt,q_if0]
theorem sameD_eq {N:Nat} {a:List De} (hf:Few N a):G_ref26_Same N a a=some true:=by
 unfold G_ref26_Same
 rw [bne_self_eq_false,q_if0]
 exact sameD_loop hf N 0 (Nat.zero_le _) (by have:=hf.len;omega)
theorem idxS_loop {N:Nat} {is A:List Int} (hA:A.length <= 4611686018427387904) (hAN:A.length < N) (hl:is.length <= 4611686018427387904):∀ (m k:Nat),k <= is.length->is.length - k < m ->
  ∃ r:Int,L_slices_IndexFunc_int_int_1_0 N m is ((is.length:Nat):Int) (k:Int) A=some (r,A)/\decide (r ≥ 0)=(is.drop k).any (fun x=>decide (x ∈ A))
 | 0,_,_,h=>absurd h (Nat.not_lt_zero _)
 | m + 1,k,h1,h=>by
  show ∃ r:Int,B_slices_IndexFunc_int_int_1_0 N (L_slices_IndexFunc_int_int_1_0 N m) is _ _ _=_/\_
  unfold B_slices_IndexFunc_int_int_1_0
  by_cases hlt:k < is.length
  ·have ht:G_law26_LineageStands_1 N is[k] A=some (decide (is[k] ∈ A),A):=by
    unfold G_law26_LineageStands_1
    rw [contains_eq hA hAN];rfl
   rw [lt_t hlt,q_if1,q_get (getn hlt),List.drop_eq_getElem_cons hlt,List.any_cons,ht]
   simp only [q_bd]
   cases hb:decide (is[k] ∈ A) with
   | true=>exact ⟨k,rfl,by simp⟩
   | false =>
    obtain ⟨r,e1,e2⟩:=idxS_loop (N:=N) hA hAN hl m (k + 1) (by omega) (by omega)
    exact ⟨r,by rw [q_if0,q_ck (by omega) (by omega),show ((k:Int) + 1)=((k + 1:Nat):Int) by omega];exact e1,by rw [e2];rfl⟩
  ·exact ⟨-1,by rw [lt_f hlt,q_if0],by rw [List.drop_of_length_le (by omega)];rfl⟩
theorem cfS_eq {N:Nat} {is A:List Int} (hA:A.length <= 4611686018427387904) (hAN:A.length < N) (hl:is.length <= 4611686018427387904) (hN:is.length < N):G_slices_ContainsFunc_int_int_1 N is A=some (is.any (fun x=>decide (x ∈ A)),A):=by
 unfold G_slices_ContainsFunc_int_int_1 G_slices_IndexFunc_int_int_1
 obtain ⟨r,e1,e2⟩:=idxS_loop (N:=N) (is:=is) hA hAN hl N 0 (Nat.zero_le _) (by omega)
 have e1:L_slices_IndexFunc_int_int_1_0 N N is ((is.length:Nat):Int) 0 A=some (r,A):=e1
 rw [e1]
 show some (decide (r ≥ 0),A)=_
 rw [e2];rfl
theorem above_stands {l:List De} (hc:chk l=0) {k m:Nat} (hk:k < l.length) (hm:m < l.length) (hkm:k < m) :
  (decide (l[k].1 ∈ l[m].2.2) || l[m].2.2.any (fun x=>decide (x ∈ (clo l (mSet [] l[k].1 true)).drop 1)))=decide (l[m].1 ∈ (clo l (mSet [] l[k].1 true)).drop 1):=by
 have hs:=chk_srt hc
 rw [Bool.eq_iff_iff,Bool.or_eq_true,decide_eq_true_eq,decide_eq_true_eq,List.any_eq_true,above_mem hc hk]
 have key:(∃ j,∃ hj:j < l.length,k < j/\l[j].1=l[m].1/\Aff l (·=l[k]) l[j]) ↔ Aff l (·=l[k]) l[m]:=by
  constructor
  ·rintro ⟨j,hj,_,e,r⟩
   have:=srt_inj hs hj hm e
   subst this;exact r
  ·intro r;exact ⟨m,hm,hkm,rfl,r⟩
 rw [key,aff_iff hc hm]
 constructor
 ·rintro (h | ⟨o,ho,h⟩)
  ·exact .inr ⟨k,hk,hkm,h,.own (List.getElem_mem hk) rfl⟩
  ·obtain ⟨j,hj,q,rfl,r⟩:=(above_mem hc hk).1 (of_decide_eq_true h)
   refine .inr ⟨j,hj,?_,ho,r⟩
   obtain ⟨i,hi,q1,q2⟩:=mem_take (chk_of hc hm _ ho)
   have:=srt_inj hs hi hj q2
   omega
 ·rintro (h | ⟨i,hi,q,ho,h⟩)
  ·have:=srt_inj hs hm hk (by rw [h]);omega
  ·have hge:=aff_ge hc hk i hi h
   by_cases e:i=k
   ·subst e;exact .inl ho
   ·exact .inr ⟨_,ho,decide_eq_true ((above_mem hc hk).2 ⟨i,hi,by omega,rfl,h⟩)⟩
def cvr (x y:Rd):Bool:=(y.1 == x.1) && ((y.2.1 == x.2.1) && (decide (y.2.2.1 <= x.2.2.1) && decide (x.2.2.2 <= y.2.2.2)))
theorem idxV_loop {N:Nat} {rs:List Rd} {x:Rd} (hl:rs.length <= 4611686018427387904):∀ (m k:Nat),k <= rs.length->rs.length - k < m ->
  ∃ r:Int,L_slices_IndexFunc_Read_Read_1_0 N m rs ((rs.length:Nat):Int) (k:Int) x.1 x.2.1 x.2.2.1 x.2.2.2=some (r,x)/\decide (r ≥ 0)=(rs.drop k).any (cvr x)
 | 0,_,_,h=>absurd h (Nat.not_lt_zero _)
 | m + 1,k,h1,h=>by
  show ∃ r:Int,B_slices_IndexFunc_Read_Read_1_0 N (L_slices_IndexFunc_Read_Read_1_0 N m) rs _ _ _ _ _ _=_/\_
  unfold B_slices_IndexFunc_Read_Read_1_0
  by_cases hlt:k < rs.length
  ·have ht:G_law26_covers_1 N (rs[k].1,(rs[k].2.1,(rs[k].2.2.1,rs[k].2.2.2))) x.1 x.2.1 x.2.2.1 x.2.2.2=some (cvr x rs[k],x):=by
    unfold G_law26_covers_1 cvr
    cases (rs[k].1 == x.1) <;> cases (rs[k].2.1 == x.2.1) <;> cases decide (rs[k].2.2.1 <= x.2.2.1) <;> rfl
   rw [lt_t hlt,q_if1,q_get (getn hlt),List.drop_eq_getElem_cons hlt,List.any_cons,ht]
   simp only [q_bd]
   cases hb:cvr x rs[k] with
   | true=>exact ⟨k,rfl,by simp⟩
   | false =>
    obtain ⟨r,e1,e2⟩:=idxV_loop (N:=N) hl m (k + 1) (by omega) (by omega)
    exact ⟨r,by rw [q_if0,q_ck (by omega) (by omega),show ((k:Int) + 1)=((k + 1:Nat):Int) by omega];exact e1,by rw [e2];rfl⟩
  ·exact ⟨-1,by rw [lt_f hlt,q_if0],by rw [List.drop_of_length_le (by omega)];rfl⟩
theorem cfV_eq {N:Nat} {rs:List Rd} {x:Rd} (hl:rs.length <= 4611686018427387904) (hN:rs.length < N):G_slices_ContainsFunc_Read_Read_1 N rs x.1 x.2.1 x.2.2.1 x.2.2.2=some (rs.any (cvr x),x):=by
 unfold G_slices_ContainsFunc_Read_Read_1 G_slices_IndexFunc_Read_Read_1
 obtain ⟨r,e1,e2⟩:=idxV_loop (N:=N) (x:=x) hl N 0 (Nat.zero_le _) (by omega)
 have e1:L_slices_IndexFunc_Read_Read_1_0 N N rs ((rs.length:Nat):Int) 0 x.1 x.2.1 x.2.2.1 x.2.2.2=some (r,x):=e1
 rw [e1]
 show some (decide (r ≥ 0),x)=_
 rw [e2];rfl
theorem covers_loop {N:Nat} {a b:List Rd} (ha:a.length <= 4611686018427387904) (haN:a.length < N) (hb:b.length <= 4611686018427387904) (hv:∀ x ∈ b,a.any (cvr x)=true):∀ (m k:Nat),k <= b.length->b.length - k < m ->
  L_law26_covers_0 N m a b ((b.length:Nat):Int) (k:Int)=some true
 | 0,_,_,h=>absurd h (Nat.not_lt_zero _)
 | m + 1,k,h1,h=>by
  show B_law26_covers_0 N (L_law26_covers_0 N m) a b _ _=_
  unfold B_law26_covers_0
  by_cases hlt:k < b.length
  ·rw [lt_t hlt,q_if1,q_get (getn hlt),cfV_eq ha haN,hv _ (List.getElem_mem hlt)]
   simp only [q_bd,Bool.not_true,q_if0]
   rw [q_ck (by omega) (by omega),show ((k:Int) + 1)=((k + 1:Nat):Int) by omega]
   exact covers_loop ha haN hb hv m (k + 1) (by omega) (by omega)
  ·rw [lt_f hlt,q_if0]
theorem covers_of {N:Nat} {l:List De} (hc:chk l=0) {R:Nat} (hR:∀ d ∈ l,d.2.1.length <= R) (hRl:4 * (l.length * R) <= 1000000) (hN:4 * (l.length * R) < N) {k m:Nat} (hk:k < l.length) (hm:m < l.length) (h:Aff l (·=l[k]) l[m]):G_law26_covers N (rds l l[m].1) (rds l l[k].1)=some true:=by
 have l1:=rds_len hR l[m].1
 have l2:=rds_len hR l[k].1
 have hr:=chk_right hc
 unfold G_law26_covers
 refine covers_loop (by omega) (by omega) (by omega) (fun x hx=>?_) N 0 (Nat.zero_le _) (by omega)
 have sub:∀ t,covR (rds l l[k].1) x.1 x.2.1 t->covR (rds l l[m].1) x.1 x.2.1 t:=fun t q=>by
  rw [rds_cov hr] at q |-
  have q:=(needs_aff hc (T:=fun e=>∃ y ∈ e.2.1,y.1=x.1/\(∃ j,j <= 3/\hasK y j=true/\1 * 2 ^ j=x.2.1)/\y.2.2.1 <= t/\t < y.2.2.2) hk).1 q
  exact (needs_aff hc (T:=fun e=>∃ y ∈ e.2.1,y.1=x.1/\(∃ j,j <= 3/\hasK y j=true/\1 * 2 ^ j=x.2.1)/\y.2.2.1 <= t/\t < y.2.2.2) hm).2 (h.trans fun d e=>by rw [e];exact q)
 have nx:=rds_fwd hr hx
 obtain ⟨y,hy,e1,e2,e3,e4⟩:=sub x.2.2.1 ⟨x,hx,rfl,rfl,Int.le_refl _,nx⟩
 refine List.any_eq_true.2 ⟨y,hy,?_⟩
 unfold cvr
 rw [Bool.and_eq_true,Bool.and_eq_true,Bool.and_eq_true,beq_iff_eq,beq_iff_eq,decide_eq_true_eq,decide_eq_true_eq]
 refine ⟨e1,e2,e3,?_⟩
 rcases Int.lt_or_le y.2.2.2 x.2.2.2 with q | q
 ·obtain ⟨z,hz,z1,z2,z3,z4⟩:=sub y.2.2.2 ⟨x,hx,rfl,rfl,by omega,by omega⟩
  have ny:=rds_fwd hr hy
  have nz:=rds_fwd hr hz
  rcases pw_mem (rds_sep hr l[m].1) hy hz with r | r | r
  ·subst r;omega
  ·unfold sep at r;omega
  ·unfold sep at r;omega
 ·exact q
section
variable {N:Nat} {l:List De} {rec6:(List De)->(List De)->Int->Int->(List De)->Option Bool} {k:Nat} (hk:k < l.length) (hf:Few N l) (hR:∀ d ∈ l,d.2.1.length <= 42) (ho:∀ d ∈ l,d.2.2.length <= 20) (hN:4 * (l.length * 42) < N) (hN5:5 <= N) (hl:l.length <= 30) (hc:chk l=0)
include hk hf hR ho hN hN5 hl hc in
theorem stands3:∀ (m j:Nat),k + 1 + j <= l.length->l.length - (k + 1 + j) < m ->
  L_law26_LineageStands_3 N rec6 m l l ((l.length:Nat):Int) (k:Int) (l.drop (k + 1)) (((l.drop (k + 1)).length:Nat):Int) (j:Int) (l.take (k + 1)) l[k].1 l[k].2.1 l[k].2.2 ((clo l (mSet [] l[k].1 true)).drop 1) (rds l l[k].1)=rec6 l l ((l.length:Nat):Int) ((k + 1:Nat):Int) (l.take (k + 1))
 | 0,_,_,h=>absurd h (Nat.not_lt_zero _)
 | m + 1,j,h1,h=>by
  show B_law26_LineageStands_3 N rec6 (L_law26_LineageStands_3 N rec6 m) _ _ _ _ _ _ _ _ _ _ _ _ _=_
  unfold B_law26_LineageStands_3
  have hdl:(l.drop (k + 1)).length=l.length - (k + 1):=List.length_drop
  have hA:=clo_lenA l (mSet [] l[k].1 true)
  have hA1:((clo l (mSet [] l[k].1 true)).drop 1).length <= l.length:=by rw [List.length_drop];omega
  have l2:=rds_len hR l[k].1
  by_cases hlt:k + 1 + j < l.length
  ·have hmm:=List.getElem_mem hlt
   have hoo:=ho _ hmm
   have hfo:=hf.of _ hmm
   have hg:(l.drop (k + 1))[j]?=some l[k + 1 + j]:=by rw [List.getElem?_drop];exact getn hlt
   rw [decide_eq_true (show (j:Int) < (((l.drop (k + 1)).length:Nat):Int) by omega),q_if1,q_get hg]
   have e0:(bd? (G_slices_Contains_int_int N l[k + 1 + j].2.2 l[k].1) fun v68=>if? v68 (gl? (l.take (k + 1)).length (l.take (k + 1)) (gl? (rds l l[k].1).length (rds l l[k].1) (some (l,true,l,((l.length:Nat):Int),(k:Int),l.drop (k + 1),(((l.drop (k + 1)).length:Nat):Int),(j:Int),l.take (k + 1),l[k].1,l[k].2.1,l[k].2.2,(clo l (mSet [] l[k].1 true)).drop 1,rds l l[k].1,l[k + 1 + j].1,l[k + 1 + j].2.1,l[k + 1 + j].2.2)))) (bd? (G_slices_ContainsFunc_int_int_1 N l[k + 1 + j].2.2 ((clo l (mSet [] l[k].1 true)).drop 1)) fun v69=>gl? (l.take (k + 1)).length (l.take (k + 1)) (gl? (rds l l[k].1).length (rds l l[k].1) (some (l,v69.1,l,((l.length:Nat):Int),(k:Int),l.drop (k + 1),(((l.drop (k + 1)).length:Nat):Int),(j:Int),l.take (k + 1),l[k].1,l[k].2.1,l[k].2.2,v69.2,rds l l[k].1,l[k + 1 + j].1,l[k + 1 + j].2.1,l[k + 1 + j].2.2))))) =
     some (l,decide (l[k + 1 + j].1 ∈ (clo l (mSet [] l[k].1 true)).drop 1),l,((l.length:Nat):Int),(k:Int),l.drop (k + 1),(((l.drop (k + 1)).length:Nat):Int),(j:Int),l.take (k + 1),l[k].1,l[k].2.1,l[k].2.2,(clo l (mSet [] l[k].1 true)).drop 1,rds l l[k].1,l[k + 1 + j].1,l[k + 1 + j].2.1,l[k + 1 + j].2.2):=by
    rw [contains_eq (by omega) (by omega),cfS_eq (by omega) (by omega) (by omega) (by omega),<- above_stands hc hk hlt (by omega)]
    simp only [q_bd,q_gl]
    cases decide (l[k].1 ∈ l[k + 1 + j].2.2) <;> rfl
   rw [e0]
   simp only [q_bd]
   rw [contains_eq (by omega) (by omega)]
   simp only [q_bd]
   rw [show (decide (l[k + 1 + j].1 ∈ (clo l (mSet [] l[k].1 true)).drop 1) == decide (l[k + 1 + j].1 ∈ (clo l (mSet [] l[k].1 true)).drop 1))=true from beq_self_eq_true _]
   simp only [Bool.not_true,q_if0]
   have ih:=stands3 m (j + 1) (by omega) (by omega)
   by_cases hin:l[k + 1 + j].1 ∈ (clo l (mSet [] l[k].1 true)).drop 1
   ·have hAf:Aff l (·=l[k]) l[k + 1 + j]:=by
     obtain ⟨i,hi,_,e,r⟩:=(above_mem hc hk).1 hin
     have:=srt_inj (chk_srt hc) hi hlt e
     subst this;exact r
    have hid:l[k + 1 + j].1 ∈ ids l:=List.mem_map.2 ⟨_,hmm,rfl⟩
    rw [decide_eq_true hin]
    simp only [Bool.not_true,q_if0]
    rw [reads_eq hf hR (by omega) (fun d hd=>by have:=ho d hd;omega) hN hN5 (by omega),if_pos hc,if_pos hid]
    simp only [q_bd,bne_self_eq_false,q_if0,q_gl]
    rw [covers_of hc hR (by omega) hN hk hlt hAf]
    simp only [q_bd,q_gl,Bool.not_true,q_if0,q_jr]
    rw [q_ck (by omega) (by omega),show ((j:Int) + 1)=((j + 1:Nat):Int) by omega]
    exact ih
   ·rw [decide_eq_false hin]
    simp only [Bool.not_false,q_if1,q_gl,q_jr]
    rw [q_ck (by omega) (by omega),show ((j:Int) + 1)=((j + 1:Nat):Int) by omega]
    exact ih
  ·rw [decide_eq_false (show ¬ (j:Int) < (((l.drop (k + 1)).length:Nat):Int) by omega),q_if0,q_ck (by omega) (by omega),q_gl,show ((k:Int) + 1)=((k + 1:Nat):Int) by omega]
include hk hf hR ho hN hN5 hl hc in
theorem stands2:∀ (m j:Nat),j <= k + 1->k + 1 - j < m ->
  L_law26_LineageStands_2 N rec6 m l (k:Int) l ((l.length:Nat):Int) (k:Int) (l.take (k + 1)) (((l.take (k + 1)).length:Nat):Int) (j:Int) (l.take (k + 1)) l[k].1 l[k].2.1 l[k].2.2 ((clo l (mSet [] l[k].1 true)).drop 1) (rds l l[k].1)=rec6 l l ((l.length:Nat):Int) ((k + 1:Nat):Int) (l.take (k + 1))
 | 0,_,_,h=>absurd h (Nat.not_lt_zero _)
 | m + 1,j,h1,h=>by
  show B_law26_LineageStands_2 N rec6 (L_law26_LineageStands_2 N rec6 m) _ _ _ _ _ _ _ _ _ _ _ _ _ _=_
  unfold B_law26_LineageStands_2
  have htl:(l.take (k + 1)).length=k + 1:=by rw [List.length_take];omega
  have hA:=clo_lenA l (mSet [] l[k].1 true)
  have hA1:((clo l (mSet [] l[k].1 true)).drop 1).length <= l.length:=by rw [List.length_drop];omega
  have hfl:=hf.len
  by_cases hlt:j < k + 1
  ·have hj:j < l.length:=by omega
   have hg:(l.take (k + 1))[j]?=some l[j]:=by rw [List.getElem?_take_of_lt hlt];exact getn hj
   have hno:¬ l[j].1 ∈ (clo l (mSet [] l[k].1 true)).drop 1:=fun q=>by
    obtain ⟨i,hi,q1,e,_⟩:=(above_mem hc hk).1 q
    have:=srt_inj (chk_srt hc) hi hj e
    omega
   rw [decide_eq_true (show (j:Int) < (((l.take (k + 1)).length:Nat):Int) by omega),q_if1,q_get hg,contains_eq (by omega) (by omega),decide_eq_false hno]
   simp only [q_bd,q_if0,q_gl]
   rw [q_ck (by omega) (by omega),show ((j:Int) + 1)=((j + 1:Nat):Int) by omega]
   exact stands2 m (j + 1) (by omega) (by omega)
  ·rw [decide_eq_false (show ¬ (j:Int) < (((l.take (k + 1)).length:Nat):Int) by omega),q_if0,q_ck (by omega) (by omega),show ((k:Int) + 1).toNat=k + 1 by omega,q_gdT (by omega),q_gdT (by omega),q_gdT (Nat.le_refl _),q_gl,q_gl]
   have ht:List.take (l.length - (k + 1)) (List.drop (k + 1) l)=l.drop (k + 1):=List.take_of_length_le (by rw [List.length_drop];omega)
   rw [ht]
   exact stands3 (rec6:=rec6) hk hf hR ho hN hN5 hl hc N 0 (by omega) (by omega)
include hk hf hR ho hN hN5 hl hc in
theorem stands1:∀ (m i:Nat),i <= (rds l l[k].1).length->(rds l l[k].1).length - i < m ->
  L_law26_LineageStands_1 N rec6 m l (k:Int) l ((l.length:Nat):Int) (k:Int) (((rds l l[k].1).length:Nat):Int) (i:Int) (l.take (k + 1)) l[k].1 l[k].2.1 l[k].2.2 ((clo l (mSet [] l[k].1 true)).drop 1) (rds l l[k].1)=rec6 l l ((l.length:Nat):Int) ((k + 1:Nat):Int) (l.take (k + 1))
 | 0,_,_,h=>absurd h (Nat.not_lt_zero _)
 | m + 1,i,h1,h=>by
  show B_law26_LineageStands_1 N rec6 (L_law26_LineageStands_1 N rec6 m) _ _ _ _ _ _ _ _ _ _ _ _ _=_
  unfold B_law26_LineageStands_1
  have l2:=rds_len hR l[k].1
  have hr:=chk_right hc
  have hsep:=rds_sep hr l[k].1
  have hfw:∀ x ∈ rds l l[k].1,x.2.2.1 < x.2.2.2:=fun x hx=>rds_fwd hr hx
  generalize hRR:rds l l[k].1=RR at *
  by_cases hlt:i < RR.length
  ·have g1:(0:Int) <= (i:Int):=by omega
   have g2:(i:Int) < ((RR.length:Nat):Int):=by omega
   have hx:=hfw _ (List.getElem_mem hlt)
   rw [lt_t hlt,q_if1,q_gdT g1,q_gdT g2,Int.toNat_natCast,q_gn (getn hlt),decide_eq_false (show ¬ RR[i].2.2.1 ≥ RR[i].2.2.2 by omega),q_if0]
   have e0:(if? (decide ((i:Int) > 0)) (ck .i64 ((i:Int) - 1) (gd? (0 <= ((i:Int) - 1)) (gd? (((i:Int) - 1) < ((RR.length:Nat):Int)) (gn? RR ((i:Int) - 1).toNat fun x32=>if? (x32.1 == RR[i].1) (ck .i64 ((i:Int) - 1) (gd? (0 <= ((i:Int) - 1)) (gd? (((i:Int) - 1) < ((RR.length:Nat):Int)) (gn? RR ((i:Int) - 1).toNat fun x33=>if? (x33.2.1 == RR[i].2.1) (ck .i64 ((i:Int) - 1) (gd? (0 <= ((i:Int) - 1)) (gd? (((i:Int) - 1) < ((RR.length:Nat):Int)) (gn? RR ((i:Int) - 1).toNat fun x34=>gl? (l.take (k + 1)).length (l.take (k + 1)) (gl? RR.length RR (gl? RR.length RR (some (l,(k:Int),l,((l.length:Nat):Int),(k:Int),((RR.length:Nat):Int),(i:Int),decide (x34.2.2.2 ≥ RR[i].2.2.1),l.take (k + 1),l[k].1,l[k].2.1,l[k].2.2,(clo l (mSet [] l[k].1 true)).drop 1,RR)))))))) (gl? (l.take (k + 1)).length (l.take (k + 1)) (gl? RR.length RR (gl? RR.length RR (some (l,(k:Int),l,((l.length:Nat):Int),(k:Int),((RR.length:Nat):Int),(i:Int),false,l.take (k + 1),l[k].1,l[k].2.1,l[k].2.2,(clo l (mSet [] l[k].1 true)).drop 1,RR))))))))) (gl? (l.take (k + 1)).length (l.take (k + 1)) (gl? RR.length RR (gl? RR.length RR (some (l,(k:Int),l,((l.length:Nat):Int),(k:Int),((RR.length:Nat):Int),(i:Int),false,l.take (k + 1),l[k].1,l[k].2.1,l[k].2.2,(clo l (mSet [] l[k].1 true)).drop 1,RR))))))))) (gl? (l.take (k + 1)).length (l.take (k + 1)) (gl? RR.length RR (gl? RR.length RR (some (l,(k:Int),l,((l.length:Nat):Int),(k:Int),((RR.length:Nat):Int),(i:Int),false,l.take (k + 1),l[k].1,l[k].2.1,l[k].2.2,(clo l (mSet [] l[k].1 true)).drop 1,RR)))))) =
     some (l,(k:Int),l,((l.length:Nat):Int),(k:Int),((RR.length:Nat):Int),(i:Int),false,l.take (k + 1),l[k].1,l[k].2.1,l[k].2.2,(clo l (mSet [] l[k].1 true)).drop 1,RR):=by
    simp only [q_gl]
    by_cases h0:0 < i
    ·have hp:i - 1 < RR.length:=by omega
     have e1:((i:Int) - 1).toNat=i - 1:=by omega
     have hs:=List.pairwise_iff_getElem.1 hsep (i - 1) i hp hlt (by omega)
     have hxp:=hfw _ (List.getElem_mem hp)
     rw [decide_eq_true (show (i:Int) > 0 by omega),q_if1,q_ck (by omega) (by omega),q_gdT (by omega),q_gdT (by omega),e1,q_gn (getn hp)]
     by_cases c1:RR[i - 1].1=RR[i].1
     ·rw [show (RR[i - 1].1 == RR[i].1)=true by simpa using c1,q_if1,q_ck (by omega) (by omega),q_gdT (by omega),q_gdT (by omega),q_gn (getn hp)]
      by_cases c2:RR[i - 1].2.1=RR[i].2.1
      ·rw [show (RR[i - 1].2.1 == RR[i].2.1)=true by simpa using c2,q_if1,q_ck (by omega) (by omega),q_gdT (by omega),q_gdT (by omega),q_gn (getn hp)]
       rw [decide_eq_false (by unfold sep at hs;omega)]
      ·rw [show (RR[i - 1].2.1 == RR[i].2.1)=false by simpa using c2,q_if0]
     ·rw [show (RR[i - 1].1 == RR[i].1)=false by simpa using c1,q_if0]
    ·rw [decide_eq_false (show ¬ (i:Int) > 0 by omega),q_if0]
   rw [e0]
   simp only [q_bd,q_if0,q_gl]
   rw [q_ck (by omega) (by omega),show ((i:Int) + 1)=((i + 1:Nat):Int) by omega]
   have:=stands1 m (i + 1) (by rw [hRR];omega) (by rw [hRR];omega)
   rw [hRR] at this
   exact this
  ·rw [lt_f hlt,q_if0,q_ck (by omega) (by omega),show ((k:Int) + 1).toNat - 0=k + 1 by omega,q_gdT (by omega),q_gdT (by omega),q_gdT (by omega),q_gl,q_gl,List.drop_zero,<- hRR]
   have hfl:=hf.len
   exact stands2 (rec6:=rec6) hk hf hR ho hN hN5 hl hc N 0 (by omega) (by omega)
end
theorem few_take {N:Nat} {l:List De} (hf:Few N l) (k:Nat):Few N (l.take k) :=
 ⟨by have:=hf.len;rw [List.length_take];omega,by have:=hf.big;rw [List.length_take];omega,fun d hd=>hf.rd d (List.mem_of_mem_take hd),fun d hd=>hf.of d (List.mem_of_mem_take hd)⟩
theorem stands0 {N:Nat} {l:List De} (hf:Few N l) (hR:∀ d ∈ l,d.2.1.length <= 42) (ho:∀ d ∈ l,d.2.2.length <= 20) (hN:4 * (l.length * 42) < N) (hN5:50 <= N) (hl:l.length <= 30) (hc:chk l=0):∀ (m k:Nat),k <= l.length->l.length - k < m ->
  L_law26_LineageStands_0 N m l l ((l.length:Nat):Int) (k:Int) (l.take k)=some true
 | 0,_,_,h=>absurd h (Nat.not_lt_zero _)
 | m + 1,k,h1,h=>by
  show B_law26_LineageStands_0 N (L_law26_LineageStands_0 N m) l l _ _ _=_
  unfold B_law26_LineageStands_0
  by_cases hk:k < l.length
  ·have hm:=List.getElem_mem hk
   have hid:l[k].1 ∈ ids l:=List.mem_map.2 ⟨_,hm,rfl⟩
   have r1:=hR _ hm
   have r2:=ho _ hm
   have l2:=rds_len hR l[k].1
   have ha:G_lineage_Add N (l.take k) (l[k].1,(l[k].2.1,l[k].2.2))=some (addF (l.take k) l[k]):=add_eq (d:=l[k]) (few_take hf k) (by rw [List.length_take];omega) (by omega) (by omega) (by omega) (by omega)
   rw [lt_t hk,q_if1,q_get (getn hk),q_gl,ha,add_take hc hk,above_eq hf (by omega),reads_eq hf hR (by omega) (fun d hd=>by have:=ho d hd;omega) hN (by omega) (by omega),if_pos hc,if_pos hid]
   have hab:aboveF l l[k].1=((clo l (mSet [] l[k].1 true)).drop 1,0):=by
    unfold aboveF
    rw [if_pos hc,if_pos hid]
   rw [hab]
   simp only [q_bd,bne_self_eq_false,q_if0,q_gl]
   have h1:=stands1 (rec6:=L_law26_LineageStands_0 N m) hk hf hR ho hN (by omega) hl hc N 0 (Nat.zero_le _) (by omega)
   refine Eq.trans h1 ?_
   exact stands0 hf hR ho hN hN5 hl hc m (k + 1) (by omega) (by omega)
  ·rw [lt_f hk,q_if0,q_gl,List.take_of_length_le (by omega),sameD_eq hf];rfl
theorem sanity_t6:G_law26_sanity 6000=some true:=by kernel_rfl
theorem stands_true (l:List De):G_law26_LineageStands 6000 l=some true:=by
 unfold G_law26_LineageStands
 rw [sanity_t6]
 simp only [q_bd,Bool.not_true,q_if0,q_ifn,q_if1]
 obtain ⟨f,hb,hsm⟩:=few_eq (N:=6000) (by omega) l 30
 rw [hb]
 simp only [q_bd]
 cases f with
 | false=>rfl
 | true =>
  rw [q_if1]
  by_cases c1:((l.length:Nat):Int) > 30
  ·rw [decide_eq_true c1];rfl
  ·rw [decide_eq_false c1,q_if0]
   have hs:=hsm rfl
   have hf:Few 6000 l:=few_of (by omega) (by omega) hs
   rw [check_eq hf]
   simp only [q_bd]
   by_cases hc:chk l=0
   ·rw [hc]
    simp only [bne_self_eq_false,q_if0]
    exact stands0 (N:=6000) hf (fun d hd=>(hs d hd).2) (fun d hd=>(hs d hd).1) (by omega) (by omega) (by omega) hc 6000 0 (Nat.zero_le _) (by omega)
   ·rw [show (chk l != 0)=true by simpa using hc];rfl
end Go.Proofs.Tryz

