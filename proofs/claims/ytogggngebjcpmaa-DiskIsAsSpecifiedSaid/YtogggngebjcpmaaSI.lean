/- The library's slices.Sort at []int: on a row of its own, or on nil. -/
import Derived.Test.YtogggngebjcpmaaProg
import Derived.Test.YtogggngebjcpmaaYB
import Derived.Shelf.Sort.Plain
import Derived.Shelf.Slices.In.SortNone
import Derived.Sort.OwnSortedInts
set_option linter.all false
set_option linter.unusedSimpArgs false
set_option linter.unusedVariables false
namespace Go.Proofs
open Go.Shelf
def Try.lays189_ren : Go.Shelf.Ren := ⟨fun | 189 => 42 | 125 => 45 | 257 => 44 | 128 => 57 | 129 => 58 | 294 => 48 | 295 => 49 | 296 => 50 | 297 => 51 | 298 => 52 | 299 => 53 | 216 => 54 | 300 => 55 | 301 => 56 | 328 => 59 | 329 => 60 | 330 => 61 | 331 => 62 | 332 => 63 | 215 => 64 | 343 => 65 | n => n, fun | 28 => 41 | 3 => 3 | 46 => 80 | 0 => 0 | 51 => 85 | 53 => 88 | 4 => 4 | 183 => 93 | 182 => 92 | 131 => 98 | 5 => 5 | 9 => 9 | 218 => 102 | 222 => 106 | 228 => 109 | 229 => 110 | n => n, fun | n => n⟩
theorem Try.lays189 : Go.Proofs.Lays.n189 Try.prog Try.lays189_ren := {
  mixed := by kernel_rfl
  f125 := Try.func45.trans (congrArg some (by kernel_rfl))
  f128 := Try.func57.trans (congrArg some (by kernel_rfl))
  f129 := Try.func58.trans (congrArg some (by kernel_rfl))
  f189 := Try.func42.trans (congrArg some (by kernel_rfl))
  f215 := Try.func64.trans (congrArg some (by kernel_rfl))
  f216 := Try.func54.trans (congrArg some (by kernel_rfl))
  f257 := Try.func44.trans (congrArg some (by kernel_rfl))
  f294 := Try.func48.trans (congrArg some (by kernel_rfl))
  f295 := Try.func49.trans (congrArg some (by kernel_rfl))
  f296 := Try.func50.trans (congrArg some (by kernel_rfl))
  f297 := Try.func51.trans (congrArg some (by kernel_rfl))
  f298 := Try.func52.trans (congrArg some (by kernel_rfl))
  f299 := Try.func53.trans (congrArg some (by kernel_rfl))
  f300 := Try.func55.trans (congrArg some (by kernel_rfl))
  f301 := Try.func56.trans (congrArg some (by kernel_rfl))
  f328 := Try.func59.trans (congrArg some (by kernel_rfl))
  f329 := Try.func60.trans (congrArg some (by kernel_rfl))
  f330 := Try.func61.trans (congrArg some (by kernel_rfl))
  f331 := Try.func62.trans (congrArg some (by kernel_rfl))
  f332 := Try.func63.trans (congrArg some (by kernel_rfl))
  f343 := Try.func65.trans (congrArg some (by kernel_rfl))
  t0 := Try.underlying0
  a0 := Try.isAgg0
  z0 := Try.sizeOf0
  v0 := Try.zeroValue0
  t3 := Try.underlying3
  a3 := Try.isAgg3
  z3 := Try.sizeOf3
  v3 := Try.zeroValue3
  t4 := Try.underlying4
  a4 := Try.isAgg4
  z4 := Try.sizeOf4
  v4 := Try.zeroValue4
  t5 := Try.underlying5
  a5 := Try.isAgg5
  z5 := Try.sizeOf5
  v5 := Try.zeroValue5
  t9 := Try.underlying9
  a9 := Try.isAgg9
  z9 := Try.sizeOf9
  v9 := Try.zeroValue9
  t28 := Try.underlying41
  a28 := Try.isAgg41
  z28 := Try.sizeOf41
  v28 := Try.zeroValue41
  t46 := Try.underlying80
  a46 := Try.isAgg80
  z46 := Try.sizeOf80
  v46 := Try.zeroValue80
  t51 := Try.underlying85
  a51 := Try.isAgg85
  z51 := Try.sizeOf85
  v51 := Try.zeroValue85
  t53 := Try.underlying88
  a53 := Try.isAgg88
  z53 := Try.sizeOf88
  v53 := Try.zeroValue88
  t131 := Try.underlying98
  a131 := Try.isAgg98
  z131 := Try.sizeOf98
  v131 := Try.zeroValue98
  t182 := Try.underlying92
  a182 := Try.isAgg92
  z182 := Try.sizeOf92
  v182 := Try.zeroValue92
  t183 := Try.underlying93
  a183 := Try.isAgg93
  z183 := Try.sizeOf93
  v183 := Try.zeroValue93
  t218 := Try.underlying102
  a218 := Try.isAgg102
  z218 := Try.sizeOf102
  v218 := Try.zeroValue102
  t222 := Try.underlying106
  a222 := Try.isAgg106
  z222 := Try.sizeOf106
  v222 := Try.zeroValue106
  t228 := Try.underlying109
  a228 := Try.isAgg109
  z228 := Try.sizeOf109
  v228 := Try.zeroValue109
  t229 := Try.underlying110
  a229 := Try.isAgg110
  z229 := Try.sizeOf110
  v229 := Try.zeroValue110 }
end Go.Proofs
namespace Go.Proofs.Try
open Go.Eng Go.RowKit Go.Sort Go.Shelf

def ins (x : Int) : List Int → List Int
  | [] => [x]
  | y :: l => if x ≤ y then x :: y :: l else y :: ins x l
def srt : List Int → List Int
  | [] => []
  | x :: l => ins x (srt l)
theorem ins_perm (x : Int) : ∀ l : List Int, (ins x l).Perm (x :: l)
  | [] => .refl _
  | y :: l => by
    unfold ins
    split
    · exact .refl _
    · exact ((ins_perm x l).cons y).trans (.swap x y l)
theorem srt_perm : ∀ l : List Int, (srt l).Perm l
  | [] => .refl _
  | x :: l => (ins_perm x (srt l)).trans ((srt_perm l).cons x)
theorem ins_sorted (x : Int) : ∀ {l : List Int}, l.Pairwise (· ≤ ·) → (ins x l).Pairwise (· ≤ ·)
  | [], _ => List.pairwise_singleton _ _
  | y :: l, h => by
    have h1 := List.pairwise_cons.1 h
    unfold ins
    split
    · rename_i hxy
      exact List.pairwise_cons.2 ⟨fun z hz => by
        rcases List.mem_cons.1 hz with rfl | hz
        · exact hxy
        · exact Int.le_trans hxy (h1.1 z hz), h⟩
    · refine List.pairwise_cons.2 ⟨fun z hz => ?_, ins_sorted x h1.2⟩
      rcases List.mem_cons.1 ((ins_perm x l).mem_iff.1 hz) with rfl | hz
      · omega
      · exact h1.1 z hz
theorem srt_sorted : ∀ l : List Int, (srt l).Pairwise (· ≤ ·)
  | [] => .nil
  | x :: l => ins_sorted x (srt_sorted l)
theorem srt_of_perm {l l' : List Int} (h : l.Perm l') : srt l = srt l' :=
  List.Perm.eq_of_pairwise (le := fun a b : Int => a ≤ b) (fun _ _ _ _ h1 h2 => Int.le_antisymm h1 h2) (srt_sorted l) (srt_sorted l') (((srt_perm l).trans h).trans (srt_perm l').symm)
theorem srt_eq (l : List Int) : srt l = l.mergeSort fun x y => decide (x ≤ y) := by
  refine List.Perm.eq_of_pairwise (le := fun a b : Int => a ≤ b) (fun _ _ _ _ h1 h2 => Int.le_antisymm h1 h2) (srt_sorted l) ?_ ((srt_perm l).trans (List.mergeSort_perm l _).symm)
  have := List.pairwise_mergeSort (le := fun x y : Int => decide (x ≤ y)) (fun a b c h1 h2 => by simp only [decide_eq_true_eq] at *; omega) (fun a b => by simp only [Bool.or_eq_true, decide_eq_true_eq]; omega) l
  exact this.imp fun h => of_decide_eq_true h
def G_slices_Sort_int_int (_N : Nat) (xs : List Int) : Option (List Int) := if xs.length < 4611686018427387904 then some (srt xs) else none
def S_slices_Sort_int_int (N : Nat) : Sig := { fn := 42, ent := ⟨[(0, .slw (.B 0) (.i .i64) 0)], [some (.row true (.i .i64) [])], []⟩, out := [⟨[], [some (.row true (.i .i64) [])], []⟩], F := G_slices_Sort_int_int N }

def intRow (xs : List Int) : List (List DV) := xs.map fun x => [DV.I .i64 x]
theorem rows_take_int {G : Gh} {vs : Array Value} {xs : List Int} (h : DV.rows G (fun o => vs[o]?) 1 0 (intRow xs)) : vs.toList.take xs.length = xs.map (Value.int .i64) := by
  apply List.ext_getElem?
  intro j
  by_cases hj : j < xs.length
  · rw [List.getElem?_take_of_lt hj, Array.getElem?_toList]
    have h1 : (intRow xs)[j]? = some [DV.I .i64 xs[j]] := by simp [intRow, hj]
    obtain ⟨_, h2⟩ := DV.rows_get h h1
    obtain ⟨⟨v, h3, h4⟩, _⟩ := h2
    have h5 : v = .int .i64 xs[j] := h4
    subst h5
    rw [show 0 + j * 1 = j by omega] at h3
    have h3 : vs[j]? = _ := h3
    rw [h3]
    simp [hj]
  · rw [List.getElem?_take_eq_none (by omega), List.getElem?_eq_none (by simp; omega)]
theorem rows_of_int {G : Gh} {vs : Array Value} : ∀ {xs : List Int} {o : Nat}, (∀ j (h : j < xs.length), vs[o + j]? = some (Value.int .i64 xs[j])) → DV.rows G (fun o => vs[o]?) 1 o (intRow xs)
  | [], _, _ => trivial
  | x :: xs, o, h => by
    refine ⟨rfl, ⟨⟨.int .i64 x, ?_, rfl⟩, trivial⟩, rows_of_int fun j hj => ?_⟩
    · have := h 0 (by simp)
      simpa using this
    · have := h (j + 1) (by simpa using hj)
      rw [show o + 1 + j = o + (j + 1) by omega, this]
      simp

theorem s_slices_Sort_int_int (N : Nat) : SigOk prog (S_slices_Sort_int_int N) := by
  rintro ⟨xs, ⟨⟩⟩ r hF nbs hn
  have hF : (if xs.length < 4611686018427387904 then some (srt xs) else none) = some r := hF
  rw [srt_eq] at hF
  split at hF
  rotate_left
  · cases hF
  rename_i hlen
  cases hF
  have hn : nbs.map some = ([] : List (Option Blk)) := hn
  obtain rfl : nbs = [] := List.map_eq_nil_iff.1 hn
  show ACall prog 42 [.sl (.B 0) 1 0 xs.length] [some (.row true 1 (intRow xs))] (.tup []) [some (.row true 1 (intRow (xs.mergeSort fun x y => decide (x ≤ y))))] []
  intro w G m vs hS hm hr
  obtain ⟨v0, l0, hv0, ⟨h1, loc, hloc, h2⟩, h3⟩ := hr
  subst h3
  have hlk : ∀ (b : Blk) h bl, lkOf [some b] [] h = some bl → h = .B 0 ∧ bl = b := by
    intro b h bl e
    cases h with
    | B i => cases i with
      | zero => cases e; exact ⟨rfl, rfl⟩
      | succ i => cases e
    | O i => cases e
  have hnd : loc ≠ .dead := by
    rintro rfl
    cases hS.dead _ hloc
  have hfn : FnOk prog 42 := ⟨_, func42, rfl, rfl⟩
  obtain rfl : vs = #[v0] := by apply Array.ext'; simpa using hv0
  refine .inl ⟨hfn, ?_⟩
  rcases h2 hnd with ⟨a, rfl, h0⟩ | ⟨b, sz, cap, rfl, rfl, hc1, hc2⟩
  · obtain rfl : xs = [] := List.length_eq_zero_iff.1 h0
    refine (Any.slices_Sort_int_none lays189 a 0 w).mono ?_
    rintro e w' ⟨rfl, rfl⟩
    have e : ([] : List Int).mergeSort (fun x y => decide (x ≤ y)) = [] := List.mergeSort_nil
    rw [e]
    exact ⟨_, rfl, G, m, hS, ⟨_, rfl, rfl⟩, Fr.refl _ _ _ _, fun i => SameB.refl _, fun h l b h1 h2 => .inr ⟨h, l, h1, h2⟩, fun i _ => hm i⟩
  · obtain ⟨bl, hbl, hrep⟩ := hS.blk _ _ _ hloc
    obtain ⟨_, rfl⟩ := hlk _ _ _ hbl
    obtain ⟨cur, T, hb, hsz, hk, hrows, hG⟩ := hrep
    have ht := rows_take_int hrows
    have hle : xs.length ≤ cur.size := by
      have := congrArg List.length ht
      simp at this
      omega
    have hb0 : b < w.heap.size := (Array.getElem?_eq_some_iff.1 hb).1
    refine (Any.slices_Sort_int lays189 b (0 * 1) cap xs w (by rw [Nat.zero_mul]; exact holds_of_blockI hb ht) hb0 hlen).mono ?_
    rintro e w' ⟨rfl, n, os, rfl⟩
    generalize hys : xs.mergeSort (fun x y => decide (x ≤ y)) = ys
    have hl : ys.length = xs.length := by rw [← hys]; exact List.length_mergeSort _
    have hb' := heap_sortedI (n := n) (os := os) ys.toArray hb
    have hgr := grownBy_sortedI (w := w) (g := b) (n := n) (os := os) ys.toArray
    rw [Nat.zero_mul]
    revert hb' hgr
    generalize Sort.grow (putRow (Value.int .i64) (Sort.ahead w n) b 0 ys.toArray) os = w'
    intro hb' hgr
    obtain ⟨g1, g2, g3, g4, g5⟩ := hgr
    refine ⟨_, rfl, G, m, ?_, ⟨_, rfl, rfl⟩, ⟨g1, g2, g3, g4, fun b' hb1 ho => ?_, fun _ _ _ _ => rfl, Gh.le.refl G⟩, fun i => SameB.refl _, fun h l b h1 h2 => .inr ⟨h, l, h1, h2⟩, fun i _ => hm i⟩
    · refine ⟨?_, ?_, hS.injG, ?_, ?_, hS.gl, ?_⟩
      · intro h b2 sz2 hm2
        obtain ⟨bl, hbl, _⟩ := hS.blk _ _ _ hm2
        obtain ⟨rfl, rfl⟩ := hlk _ _ _ hbl
        rw [hloc] at hm2
        cases hm2
        refine ⟨_, rfl, _, T, hb', by rw [putCells, Array.size_mapIdx]; exact hsz, by simpa [intRow, hl] using hk, rows_of_int fun j hj => ?_, hG⟩
        have := congrArg (fun l => l[j]?) (take_putCellsI cur ys (by omega))
        simp only [List.getElem?_take_of_lt hj, Array.getElem?_toList] at this
        rw [Nat.zero_add, this]
        simp [hj]
      · intro h hm2
        obtain ⟨mt, k, e⟩ := hS.nil _ hm2
        obtain ⟨rfl, _⟩ := hlk _ _ _ e
        rw [hloc] at hm2; cases hm2
      · intro b2 o v hg
        have hne : b ≠ b2 := by
          rintro rfl
          rw [hG o] at hg; cases hg
        have := hS.gh _ _ _ hg
        have hlt : b2 < w.heap.size := by
          simp only [World.cell?] at this
          cases hx : w.heap[b2]? with
          | none => rw [hx] at this; simp at this
          | some _ => exact (Array.getElem?_eq_some_iff.1 hx).1
        have he := g5 b2 hlt (fun e => hne (Option.some.inj e).symm)
        simp only [World.cell?, he] at this ⊢
        exact this
      · intro h hd
        have := hS.dead _ hd
        cases h with
        | B i => cases i with
          | zero => cases this
          | succ i => rfl
        | O i => rfl
      · intro h b2 sz2 fp hm2
        obtain ⟨bl, hbl, _⟩ := hS.blkx _ _ _ _ hm2
        obtain ⟨rfl, _⟩ := hlk _ _ _ hbl
        rw [hloc] at hm2; cases hm2
    · exact g5 b' hb1 fun e => ho (by cases e; exact Own.at_ hloc)
end Go.Proofs.Try
