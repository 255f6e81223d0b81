/- For every input that the row takes, MerkleProofsAreAccepted answers true and leaves its arguments as they were. No condition but the row's own. -/
import Derived.Test.YtjhhgpencphgoaaDoorL5G2
import Derived.Test.YtjhhgpencphgoaaDoorP1
import Derived.Laws.Bits64
import Derived.Lib.EndianBits
import Derived.Lib.Varint
import Derived.Lib.BitFns
import Derived.KernelRfl
import Derived.Test.YtjhhgpencphgoaaDoorE32
import Derived.Test.YtjhhgpencphgoaaDoorRows
import Derived.Test.YtjhhgpencphgoaaDoorCards
import Derived.Test.YtjhhgpencphgoaaDoorTie
import Derived.SevenTiedAt
import Derived.LaidLaws
import Derived.Stop.LaidErr
set_option linter.unusedSimpArgs false
set_option linter.unusedVariables false
namespace Go.Proofs.Tryd
open Go.Eng

theorem bits_or_comm (k : IntKind) (x y : Int) : bits .or k x y = bits .or k y x := by
  show k.wrap ((BitVec.ofInt k.bits x ||| BitVec.ofInt k.bits y).toNat : Int) = k.wrap ((BitVec.ofInt k.bits y ||| BitVec.ofInt k.bits x).toNat : Int)
  rw [BitVec.or_comm]
theorem bits_xor_comm (k : IntKind) (x y : Int) : bits .xor k x y = bits .xor k y x := by
  show k.wrap ((BitVec.ofInt k.bits x ^^^ BitVec.ofInt k.bits y).toNat : Int) = k.wrap ((BitVec.ofInt k.bits y ^^^ BitVec.ofInt k.bits x).toNat : Int)
  rw [BitVec.xor_comm]
theorem get_arr {n : Nat} {β : Type} (x : Arr n) {j : Int} {f : Int → Option β} (h0 : 0 ≤ j) (h : j < n) : get? x.l j f = f (x.l.getD j.toNat 0) := by
  have h' : j.toNat < x.l.length := by rw [x.len]; omega
  rw [get_int h0 h', List.getD_eq_getElem?_getD, List.getElem?_eq_getElem h']; rfl
theorem get_0 {α β : Type} {a : α} {l : List α} {f : α → Option β} : get? (a :: l) 0 f = f a := rfl
theorem get_1 {α β : Type} {a b : α} {l : List α} {f : α → Option β} : get? (a :: b :: l) 1 f = f b := rfl
theorem get_2 {α β : Type} {a b c : α} {l : List α} {f : α → Option β} : get? (a :: b :: c :: l) 2 f = f c := rfl
theorem get_3 {α β : Type} {a b c d : α} {l : List α} {f : α → Option β} : get? (a :: b :: c :: d :: l) 3 f = f d := rfl
theorem get_4 {α β : Type} {a b c d e : α} {l : List α} {f : α → Option β} : get? (a :: b :: c :: d :: e :: l) 4 f = f e := rfl
theorem get_5 {α β : Type} {a b c d e g : α} {l : List α} {f : α → Option β} : get? (a :: b :: c :: d :: e :: g :: l) 5 f = f g := rfl
theorem get_6 {α β : Type} {a b c d e g h : α} {l : List α} {f : α → Option β} : get? (a :: b :: c :: d :: e :: g :: h :: l) 6 f = f h := rfl
theorem get_7 {α β : Type} {a b c d e g h i : α} {l : List α} {f : α → Option β} : get? (a :: b :: c :: d :: e :: g :: h :: i :: l) 7 f = f i := rfl
theorem set_set {n : Nat} (x : Arr n) (i : Nat) (a b : Int) : (x.set i a).set i b = x.set i b := Arr.ext (by rw [Arr.l_set, Arr.l_set, Arr.l_set, List.set_set])
theorem getD_set {n : Nat} (x : Arr n) (i : Nat) (a : Int) (h : i < n) : (x.set i a).l.getD i 0 = a := by
  rw [Arr.l_set, List.getD_eq_getElem?_getD, List.getElem?_set_self (by rw [x.len]; exact h)]; rfl
theorem getD_set_ne {n : Nat} (x : Arr n) (i j : Nat) (a : Int) (h : i ≠ j) : (x.set i a).l.getD j 0 = x.l.getD j 0 := by
  rw [Arr.l_set, List.getD_eq_getElem?_getD, List.getElem?_set_ne h, List.getD_eq_getElem?_getD]

theorem getD_rep (j n : Nat) : (List.replicate n (0 : Int)).getD j 0 = 0 := by
  rw [List.getD_eq_getElem?_getD, List.getElem?_replicate]
  split <;> rfl

/-- All are bytes. -/
def Byt (l : List Int) : Prop := ∀ x ∈ l, 0 ≤ x ∧ x < 256

def ror (x n : Int) : Int := bits .or .u32 (x / 2 ^ n.toNat) (IntKind.wrap .u32 (x * 2 ^ (32 - n).toNat))
theorem rotr_eq (N : Nat) (x n : Int) (h0 : 0 ≤ n) (h1 : n ≤ 32) : F_ref02_rotr N x n = some (ror x n) := by
  have e : (IntKind.bits .u32 : Int) = 32 := rfl
  unfold F_ref02_rotr ror
  rw [gd_of h0, gd_of (by omega), ck_of (by omega) (by omega), gd_of (by omega), gd_of (by omega)]
theorem rotl_eq (N : Nat) (x n : Int) (h : bits .and .u64 (IntKind.wrap .u64 (-n)) 31 = 32 - n) (h0 : 0 ≤ n) (h1 : n ≤ 32) (hw : IntKind.wrap .u64 (32 - (32 - n)) = n) : F_bits_RotateLeft32 N x (-n) = some (ror x n) := by
  have e : (IntKind.bits .u32 : Int) = 32 := rfl
  unfold F_bits_RotateLeft32 ror
  rw [h, hw, gd_of (by omega), gd_of (by omega), gd_of h0, gd_of (by omega), bits_or_comm]
theorem rl_6 (N : Nat) (x : Int) : F_bits_RotateLeft32 N x (-6) = some (ror x 6) := rotl_eq N x 6 (by decide +kernel) (by decide) (by decide) (by decide +kernel)
theorem rl_11 (N : Nat) (x : Int) : F_bits_RotateLeft32 N x (-11) = some (ror x 11) := rotl_eq N x 11 (by decide +kernel) (by decide) (by decide) (by decide +kernel)
theorem rl_25 (N : Nat) (x : Int) : F_bits_RotateLeft32 N x (-25) = some (ror x 25) := rotl_eq N x 25 (by decide +kernel) (by decide) (by decide) (by decide +kernel)
theorem rl_2 (N : Nat) (x : Int) : F_bits_RotateLeft32 N x (-2) = some (ror x 2) := rotl_eq N x 2 (by decide +kernel) (by decide) (by decide) (by decide +kernel)
theorem rl_13 (N : Nat) (x : Int) : F_bits_RotateLeft32 N x (-13) = some (ror x 13) := rotl_eq N x 13 (by decide +kernel) (by decide) (by decide) (by decide +kernel)
theorem rl_22 (N : Nat) (x : Int) : F_bits_RotateLeft32 N x (-22) = some (ror x 22) := rotl_eq N x 22 (by decide +kernel) (by decide) (by decide) (by decide +kernel)
theorem rl_7 (N : Nat) (x : Int) : F_bits_RotateLeft32 N x (-7) = some (ror x 7) := rotl_eq N x 7 (by decide +kernel) (by decide) (by decide) (by decide +kernel)
theorem rl_18 (N : Nat) (x : Int) : F_bits_RotateLeft32 N x (-18) = some (ror x 18) := rotl_eq N x 18 (by decide +kernel) (by decide) (by decide) (by decide +kernel)
theorem rl_17 (N : Nat) (x : Int) : F_bits_RotateLeft32 N x (-17) = some (ror x 17) := rotl_eq N x 17 (by decide +kernel) (by decide) (by decide) (by decide +kernel)
theorem rl_19 (N : Nat) (x : Int) : F_bits_RotateLeft32 N x (-19) = some (ror x 19) := rotl_eq N x 19 (by decide +kernel) (by decide) (by decide) (by decide +kernel)
theorem rr_6 (N : Nat) (x : Int) : F_ref02_rotr N x 6 = some (ror x 6) := rotr_eq N x 6 (by decide) (by decide)
theorem rr_11 (N : Nat) (x : Int) : F_ref02_rotr N x 11 = some (ror x 11) := rotr_eq N x 11 (by decide) (by decide)
theorem rr_25 (N : Nat) (x : Int) : F_ref02_rotr N x 25 = some (ror x 25) := rotr_eq N x 25 (by decide) (by decide)
theorem rr_2 (N : Nat) (x : Int) : F_ref02_rotr N x 2 = some (ror x 2) := rotr_eq N x 2 (by decide) (by decide)
theorem rr_13 (N : Nat) (x : Int) : F_ref02_rotr N x 13 = some (ror x 13) := rotr_eq N x 13 (by decide) (by decide)
theorem rr_22 (N : Nat) (x : Int) : F_ref02_rotr N x 22 = some (ror x 22) := rotr_eq N x 22 (by decide) (by decide)
theorem rr_7 (N : Nat) (x : Int) : F_ref02_rotr N x 7 = some (ror x 7) := rotr_eq N x 7 (by decide) (by decide)
theorem rr_18 (N : Nat) (x : Int) : F_ref02_rotr N x 18 = some (ror x 18) := rotr_eq N x 18 (by decide) (by decide)
theorem rr_17 (N : Nat) (x : Int) : F_ref02_rotr N x 17 = some (ror x 17) := rotr_eq N x 17 (by decide) (by decide)
theorem rr_19 (N : Nat) (x : Int) : F_ref02_rotr N x 19 = some (ror x 19) := rotr_eq N x 19 (by decide) (by decide)
theorem mix_1 (N : Nat) (x : Int) : F_hash_mix N x 6 11 25 = some (bits .xor .u32 (bits .xor .u32 (ror x 6) (ror x 11)) (ror x 25)) := by
  unfold F_hash_mix
  rw [rl_6, rl_11, rl_25]; rfl
theorem mix_2 (N : Nat) (x : Int) : F_hash_mix N x 2 13 22 = some (bits .xor .u32 (bits .xor .u32 (ror x 2) (ror x 13)) (ror x 22)) := by
  unfold F_hash_mix
  rw [rl_2, rl_13, rl_22]; rfl

theorem sched_hi (N : Nat) (p : List Int) (a2 : Arr 64) : ∀ (k t m m' : Nat) (w : Arr 64), t + k = 64 → 16 ≤ t → k < m → k < m' → ∃ r, L_hash_schedule_0 N p m t a2 w = some r ∧ L_ref02_words_1 N m' t w = some r
  | k, t, 0, m', w, _, _, h, _ => by omega
  | k, t, m + 1, 0, w, _, _, _, h => by omega
  | 0, t, m + 1, m' + 1, w, h, h1, _, _ => by
    rw [L_hash_schedule_0, L_ref02_words_1, show decide ((t : Int) < 64) = false by rw [decide_eq_false_iff_not]; omega]
    exact ⟨_, rfl, rfl⟩
  | k + 1, t, m + 1, m' + 1, w, h, h1, hm, hm' => by
    rw [L_hash_schedule_0, L_ref02_words_1, show decide ((t : Int) < 64) = true by rw [decide_eq_true_eq]; omega, show decide ((t : Int) < 16) = false by rw [decide_eq_false_iff_not]; omega]
    simp (disch := omega) only [if_true?, if_false?, ck_of, gd_of, get_arr, rl_7, rl_18, rl_17, rl_19, rr_7, rr_18, rr_17, rr_19, bd_some, cast_succ]
    exact sched_hi N p a2 k (t + 1) m m' _ (by omega) (by omega) (by omega) (by omega)
/-- A word of four bytes, as the program and as the specification compute it. -/
theorem word_eq {a b c d : Int} (ha : 0 ≤ a ∧ a < 256) (hb : 0 ≤ b ∧ b < 256) (hc : 0 ≤ c ∧ c < 256) (hd : 0 ≤ d ∧ d < 256) :
    bits .or .u32 (IntKind.wrap .u32 (bits .or .u32 (IntKind.wrap .u32 (bits .or .u32 (IntKind.wrap .u32 (bits .or .u32 (IntKind.wrap .u32 (0 * 2 ^ (8 : Int).toNat)) (IntKind.wrap .u32 a) * 2 ^ (8 : Int).toNat)) (IntKind.wrap .u32 b) * 2 ^ (8 : Int).toNat)) (IntKind.wrap .u32 c) * 2 ^ (8 : Int).toNat)) (IntKind.wrap .u32 d)
    = bits .or .u32 (bits .or .u32 (bits .or .u32 (IntKind.wrap .u32 (IntKind.wrap .u32 a * 2 ^ (24 : Int).toNat)) (IntKind.wrap .u32 (IntKind.wrap .u32 b * 2 ^ (16 : Int).toNat))) (IntKind.wrap .u32 (IntKind.wrap .u32 c * 2 ^ (8 : Int).toNat))) (IntKind.wrap .u32 d) := by
  have e8 : (2 : Int) ^ (8 : Int).toNat = 256 := rfl
  have e16 : (2 : Int) ^ (16 : Int).toNat = 65536 := rfl
  have e24 : (2 : Int) ^ (24 : Int).toNat = 16777216 := rfl
  have w : ∀ x : Int, 0 ≤ x → x < 4294967296 → IntKind.wrap .u32 x = x := fun x h h' => Go.u32_wrap_id x h h'
  rw [e8, e16, e24, w a (by omega) (by omega), w b (by omega) (by omega), w c (by omega) (by omega), w d (by omega) (by omega), w (0 * 256) (by omega) (by omega), w (a * 16777216) (by omega) (by omega), w (b * 65536) (by omega) (by omega), w (c * 256) (by omega) (by omega)]
  have j1 : bits .or .u32 (0 * 256) a = a := by rw [bits_or_comm, Go.u32_or8 _ _ (by omega) (by omega) (by omega) (by omega) (by omega)]; omega
  rw [j1, w (a * 256) (by omega) (by omega)]
  have j2 : bits .or .u32 (a * 256) b = a * 256 + b := by rw [bits_or_comm, Go.u32_or8 _ _ (by omega) (by omega) (by omega) (by omega) (by omega)]; omega
  rw [j2, w ((a * 256 + b) * 256) (by omega) (by omega)]
  have j3 : bits .or .u32 ((a * 256 + b) * 256) c = (a * 256 + b) * 256 + c := by rw [bits_or_comm, Go.u32_or8 _ _ (by omega) (by omega) (by omega) (by omega) (by omega)]; omega
  rw [j3, w (((a * 256 + b) * 256 + c) * 256) (by omega) (by omega)]
  have j4 : bits .or .u32 (((a * 256 + b) * 256 + c) * 256) d = ((a * 256 + b) * 256 + c) * 256 + d := by rw [bits_or_comm, Go.u32_or8 _ _ (by omega) (by omega) (by omega) (by omega) (by omega)]; omega
  have i1 : bits .or .u32 (a * 16777216) (b * 65536) = a * 16777216 + b * 65536 := by rw [bits_or_comm, Go.u32_or24 _ _ (by omega) (by omega) (by omega) (by omega) (by omega)]; omega
  have i2 : bits .or .u32 (a * 16777216 + b * 65536) (c * 256) = a * 16777216 + b * 65536 + c * 256 := by rw [bits_or_comm, Go.u32_or16 _ _ (by omega) (by omega) (by omega) (by omega) (by omega)]; omega
  have i3 : bits .or .u32 (a * 16777216 + b * 65536 + c * 256) d = a * 16777216 + b * 65536 + c * 256 + d := by rw [bits_or_comm, Go.u32_or8 _ _ (by omega) (by omega) (by omega) (by omega) (by omega)]; omega
  rw [j4, i1, i2, i3]; omega
theorem four {p : List Int} {i : Nat} (h : i + 4 ≤ p.length) : ∃ a b c d r, p.drop i = a :: b :: c :: d :: r := by
  match hp : p.drop i with
  | [] => have := congrArg List.length hp; simp at this; omega
  | [_] => have := congrArg List.length hp; simp at this; omega
  | [_, _] => have := congrArg List.length hp; simp at this; omega
  | [_, _, _] => have := congrArg List.length hp; simp at this; omega
  | a :: b :: c :: d :: r => exact ⟨a, b, c, d, r, rfl⟩
theorem drop_get {β : Type} {p : List Int} {i : Nat} {x : Int} {r : List Int} {f : Int → Option β} (h : p.drop i = x :: r) (j : Int) (hj : j = (i : Int)) : get? p j f = f x := by
  subst hj
  unfold get?
  have : p[i]? = some x := by rw [← drop_get0, h]; rfl
  rw [if_pos (by omega), Int.toNat_natCast, this]
theorem drop_tl {p : List Int} {i : Nat} {x : Int} {r : List Int} (h : p.drop i = x :: r) : p.drop (i + 1) = r := by
  rw [← List.drop_drop, h]; rfl
/-- One word: the inner loop of the program. -/
theorem sched_in (N : Nat) (k0 : Int → Arr 64 → Arr 64 → Option (Arr 64)) (p : List Int) (t : Nat) (a2 w : Arr 64) (a b c d : Int) (r : List Int) (ht : t < 16) (hr : p.drop (4 * t) = a :: b :: c :: d :: r) (h0 : w.l.getD t 0 = 0) (m : Nat) :
    L_hash_schedule_1 N k0 p t a2 (m + 5) 0 w = k0 ((t : Int) + 1) a2 (w.set t (bits .or .u32 (IntKind.wrap .u32 (bits .or .u32 (IntKind.wrap .u32 (bits .or .u32 (IntKind.wrap .u32 (bits .or .u32 (IntKind.wrap .u32 (0 * 2 ^ (8 : Int).toNat)) (IntKind.wrap .u32 a) * 2 ^ (8 : Int).toNat)) (IntKind.wrap .u32 b) * 2 ^ (8 : Int).toNat)) (IntKind.wrap .u32 c) * 2 ^ (8 : Int).toNat)) (IntKind.wrap .u32 d))) := by
  have hq : (p.drop (4 * (t : Int)).toNat).take (((4 * (t : Int)) + 4).toNat - (4 * (t : Int)).toNat) = [a, b, c, d] := by
    rw [show (4 * (t : Int)).toNat = 4 * t by omega, show ((4 * (t : Int)) + 4).toNat - 4 * t = 4 by omega, hr]; rfl
  have n1 : (0 : Int) + 1 = 1 := rfl
  have n2 : (1 : Int) + 1 = 2 := rfl
  have n3 : (2 : Int) + 1 = 3 := rfl
  have n4 : (3 : Int) + 1 = 4 := rfl
  have l4 : ([a, b, c, d].length : Int) = 4 := rfl
  have d0 : decide ((0 : Int) < 4) = true := rfl
  have d1 : decide ((1 : Int) < 4) = true := rfl
  have d2 : decide ((2 : Int) < 4) = true := rfl
  have d3 : decide ((3 : Int) < 4) = true := rfl
  have d4 : decide ((4 : Int) < 4) = false := rfl
  have tn : ((t : Int)).toNat = t := Int.toNat_natCast t
  simp (disch := omega) only [L_hash_schedule_1, hq, l4, d0, d1, d2, d3, d4, if_true?, if_false?, n1, n2, n3, n4, get_0, get_1, get_2, get_3, gd_of, ck_of, get_arr, tn, getD_set, set_set, h0]
theorem sched_lo (N : Nat) (p : List Int) (hp : p.length = 64) (hB : Byt p) (hN : 70 ≤ N) (a2 : Arr 64) : ∀ (k t m m' : Nat) (w : Arr 64), t + k = 16 → 64 ≤ m + t → k < m' → 64 < m + t → (∀ j, t ≤ j → w.l.getD j 0 = 0) → ∃ r, L_hash_schedule_0 N p m t a2 w = some r ∧ L_ref02_words_0 N p m' t w = some r
  | k, t, 0, m', w, _, _, _, h, _ => by omega
  | k, t, m + 1, 0, w, _, _, h, _, _ => by omega
  | 0, t, m + 1, m' + 1, w, h, _, _, h2, _ => by
    obtain rfl : t = 16 := by omega
    rw [L_ref02_words_0, show decide (((16 : Nat) : Int) < 16) = false from rfl, if_false?]
    exact sched_hi N p a2 48 16 (m + 1) N w (by omega) (by omega) (by omega) (by omega)
  | k + 1, t, m + 1, m' + 1, w, h, h3, hm', h2, hz => by
    obtain ⟨a, b, c, d, r, hr⟩ := four (p := p) (i := 4 * t) (by omega)
    have m1 : ∀ x, x ∈ p.drop (4 * t) → 0 ≤ x ∧ x < 256 := fun x hx => hB x (List.mem_of_mem_drop hx)
    rw [hr] at m1
    have ha := m1 a (by simp)
    have hb := m1 b (by simp)
    have hc := m1 c (by simp)
    have hd := m1 d (by simp)
    have hr1 := drop_tl hr
    have hr2 := drop_tl hr1
    have hr3 := drop_tl hr2
    obtain ⟨n, rfl⟩ : ∃ n, N = n + 5 := ⟨N - 5, by omega⟩
    rw [L_hash_schedule_0, L_ref02_words_0, show decide ((t : Int) < 64) = true by rw [decide_eq_true_eq]; omega, show decide ((t : Int) < 16) = true by rw [decide_eq_true_eq]; omega]
    rw [drop_get hr (4 * (t : Int)) (by omega), drop_get hr1 (4 * (t : Int) + 1) (by omega), drop_get hr2 (4 * (t : Int) + 2) (by omega), drop_get hr3 (4 * (t : Int) + 3) (by omega)]
    simp (disch := omega) only [if_true?, ck_of, gd_of]
    rw [sched_in (n + 5) _ p t a2 w a b c d r (by omega) hr (hz t (Nat.le_refl t)) n, word_eq ha hb hc hd, cast_succ, Int.toNat_natCast]
    exact sched_lo (n + 5) p hp hB hN a2 k (t + 1) m m' _ (by omega) (by omega) (by omega) (by omega) (fun j hj => by rw [getD_set_ne _ _ _ _ (by omega)]; exact hz j (by omega))
theorem words_eq (N : Nat) (p : List Int) (hp : p.length = 64) (hB : Byt p) (hN : 70 ≤ N) : ∃ r, F_hash_schedule N p = some r ∧ F_ref02_words N p = some r := by
  obtain ⟨r, h1, h2⟩ := sched_lo N p hp hB hN (Arr.zero 64) 16 0 N N (Arr.zero 64) (by omega) (by omega) (by omega) (by omega) (fun j _ => by rw [Arr.l_zero]; exact getD_rep j 64)
  exact ⟨r, h1, h2⟩
end Go.Proofs.Tryd
namespace Go.Proofs.Tryd
open Go.Eng

def j8 (a b : Arr 4) : Arr 8 := ⟨a.l ++ b.l, by rw [List.length_append, a.len, b.len]⟩
theorem arr4 (x : Arr 4) : ∃ a b c d, x = Arr.of [a, b, c, d] rfl := by
  obtain ⟨l, h⟩ := x
  match l, h with
  | [a, b, c, d], h => exact ⟨a, b, c, d, rfl⟩
theorem arr8 (x : Arr 8) : ∃ a b c d e f g h, x = Arr.of [a, b, c, d, e, f, g, h] rfl := by
  obtain ⟨l, h⟩ := x
  match l, h with
  | [a, b, c, d, e, f, g, h], _ => exact ⟨a, b, c, d, e, f, g, h, rfl⟩
theorem j8_of (a b c d e f g h : Int) : (Arr.of [a, b, c, d, e, f, g, h] rfl : Arr 8) = j8 (Arr.of [a, b, c, d] rfl) (Arr.of [e, f, g, h] rfl) := rfl
theorem rounds (N : Nat) (p0 : Arr 8) (w : Arr 64) (k0 : Int → Arr 32 → Arr 8 → List Int → Option (Arr 32)) (a2 : Int) (c3 : Arr 32) (s : Arr 8) (c5 : List Int) : ∀ (k t m m' : Nat) (x y : Arr 4), t + k = 64 → k < m → k < m' →
    ∃ x' y', L_hash_compress_0 N p0 w m t x y = L_hash_compress_1 N x' y' N 0 p0 ∧ L_ref02_Sum_1 N k0 a2 c3 s c5 w m' t (j8 x y) = L_ref02_Sum_2 N k0 a2 c3 c5 (j8 x' y') N 0 s
  | k, t, 0, m', x, y, _, h, _ => by omega
  | k, t, m + 1, 0, x, y, _, _, h => by omega
  | 0, t, m + 1, m' + 1, x, y, h, _, _ => by
    refine ⟨x, y, ?_, ?_⟩
    · rw [L_hash_compress_0, show decide ((t : Int) < 64) = false by rw [decide_eq_false_iff_not]; omega]; rfl
    · rw [L_ref02_Sum_1, show decide ((t : Int) < 64) = false by rw [decide_eq_false_iff_not]; omega]; rfl
  | k + 1, t, m + 1, m' + 1, x, y, h, hm, hm' => by
    obtain ⟨v0, v1, v2, v3, rfl⟩ := arr4 x
    obtain ⟨e0, e1, e2, e3, rfl⟩ := arr4 y
    have hx : bits .xor .u32 4294967295 e0 = bits .xor .u32 e0 4294967295 := bits_xor_comm _ _ _
    rw [L_hash_compress_0, ← j8_of, L_ref02_Sum_1, show decide ((t : Int) < 64) = true by rw [decide_eq_true_eq]; omega]
    simp (disch := omega) only [if_true?, gd_of, get_arr gA3, get_arr gA4, get_arr w, Arr.l_of, get_0, get_1, get_2, get_3, get_4, get_5, get_6, get_7, mix_1, mix_2, rr_6, rr_11, rr_25, rr_2, rr_13, rr_22, bd_some, ck_of, cast_succ, ← gl_same, hx]
    rw [j8_of]
    exact rounds N p0 w k0 a2 c3 s c5 k (t + 1) m m' _ _ (by omega) (by omega) (by omega)

/-- The state, and what was added. -/
def addA (s : Arr 8) (v : Arr 8) : Arr 8 := ⟨List.zipWith (fun a b => IntKind.wrap .u32 (a + b)) s.l v.l, by rw [List.length_zipWith, s.len, v.len]; rfl⟩
theorem add_1 (N n : Nat) (x y : Arr 4) (s : Arr 8) : L_hash_compress_1 N x y (n + 5) 0 s = some (addA s (j8 x y)) := by
  obtain ⟨v0, v1, v2, v3, rfl⟩ := arr4 x
  obtain ⟨e0, e1, e2, e3, rfl⟩ := arr4 y
  obtain ⟨a, b, c, d, e, f, g, h, rfl⟩ := arr8 s
  rfl
theorem add_2 (N n : Nat) (k0 : Int → Arr 32 → Arr 8 → List Int → Option (Arr 32)) (a2 : Int) (c3 : Arr 32) (c5 : List Int) (v s : Arr 8) : L_ref02_Sum_2 N k0 a2 c3 c5 v (n + 9) 0 s = k0 (a2 + 64) c3 (addA s v) c5 := by
  obtain ⟨v0, v1, v2, v3, v4, v5, v6, v7, rfl⟩ := arr8 v
  obtain ⟨a, b, c, d, e, f, g, h, rfl⟩ := arr8 s
  rfl

theorem comp_ex (N : Nat) (hN : 70 ≤ N) (s : Arr 8) (b : List Int) (hb : b.length = 64) (hB : Byt b) : ∃ r, F_hash_compress N s b = some r ∧ ∀ k0 a2 a3 a5, (bd? (F_ref02_words N b) fun v6 => L_ref02_Sum_1 N k0 a2 a3 s a5 v6 N 0 s) = k0 (a2 + 64) a3 r a5 := by
  obtain ⟨w, h1, h2⟩ := words_eq N b hb hB hN
  obtain ⟨n, rfl⟩ : ∃ n, N = n + 9 := ⟨N - 9, by omega⟩
  have hj : j8 (s.part 0 4) (s.part 4 4) = s := by
    obtain ⟨a, b, c, d, e, f, g, h, rfl⟩ := arr8 s
    rfl
  obtain ⟨x', y', hh, hh1⟩ := rounds (n + 9) s w (fun _ _ _ _ => none) 0 (Arr.zero 32) s [] 64 0 (n + 9) (n + 9) (s.part 0 4) (s.part 4 4) (by omega) (by omega) (by omega)
  have hh : L_hash_compress_0 (n + 9) s w (n + 9) 0 (s.part 0 4) (s.part 4 4) = L_hash_compress_1 (n + 9) x' y' (n + 9) 0 s := hh
  refine ⟨addA s (j8 x' y'), ?_, ?_⟩
  · unfold F_hash_compress
    rw [h1, bd_some, hh]
    exact add_1 (n + 9) (n + 4) x' y' s
  · intro k0 a2 a3 a5
    rw [h2, bd_some]
    obtain ⟨x2, y2, g, g1⟩ := rounds (n + 9) s w k0 a2 a3 s a5 64 0 (n + 9) (n + 9) (s.part 0 4) (s.part 4 4) (by omega) (by omega) (by omega)
    have g : L_hash_compress_0 (n + 9) s w (n + 9) 0 (s.part 0 4) (s.part 4 4) = L_hash_compress_1 (n + 9) x2 y2 (n + 9) 0 s := g
    rw [hj] at g1
    have g1 : L_ref02_Sum_1 (n + 9) k0 a2 a3 s a5 w (n + 9) 0 s = L_ref02_Sum_2 (n + 9) k0 a2 a3 a5 (j8 x2 y2) (n + 9) 0 s := g1
    rw [g1, add_2 (n + 9) n]
    have e := hh.symm.trans g
    rw [show (n + 9) = (n + 4) + 5 from rfl, add_1, add_1, Option.some.injEq] at e
    rw [e]

/-- The state behind a block. -/
def comp (N : Nat) (s : Arr 8) (b : List Int) : Arr 8 := (F_hash_compress N s b).getD default
theorem comp_1 (N : Nat) (hN : 70 ≤ N) (s : Arr 8) (b : List Int) (hb : b.length = 64) (hB : Byt b) : F_hash_compress N s b = some (comp N s b) := by
  obtain ⟨r, h, _⟩ := comp_ex N hN s b hb hB
  unfold comp
  rw [h]; rfl
theorem comp_2 (N : Nat) (hN : 70 ≤ N) (s : Arr 8) (b : List Int) (hb : b.length = 64) (hB : Byt b) (k0 : Int → Arr 32 → Arr 8 → List Int → Option (Arr 32)) (a2 : Int) (a3 : Arr 32) (a5 : List Int) : (bd? (F_ref02_words N b) fun v6 => L_ref02_Sum_1 N k0 a2 a3 s a5 v6 N 0 s) = k0 (a2 + 64) a3 (comp N s b) a5 := by
  obtain ⟨r, h, h'⟩ := comp_ex N hN s b hb hB
  have e : comp N s b = r := by unfold comp; rw [h]; rfl
  rw [h', e]

def foldB (N : Nat) : Nat → Arr 8 → List Int → Arr 8
  | 0, s, _ => s
  | k + 1, s, l => foldB N k (comp N s (l.take 64)) (l.drop 64)
theorem foldB_succ (N : Nat) : ∀ (k : Nat) (s : Arr 8) (l : List Int), foldB N (k + 1) s l = comp N (foldB N k s l) ((l.drop (64 * k)).take 64)
  | 0, s, l => rfl
  | k + 1, s, l => by
    rw [foldB, foldB_succ N k, foldB, List.drop_drop, show 64 + 64 * k = 64 * (k + 1) by omega]
theorem foldB_app (N : Nat) : ∀ (k : Nat) (s : Arr 8) (l m : List Int), 64 * k ≤ l.length → foldB N k s (l ++ m) = foldB N k s l
  | 0, s, l, m, _ => rfl
  | k + 1, s, l, m, h => by
    rw [foldB, foldB, List.take_append_of_le_length (by omega), List.drop_append_of_le_length (by omega)]
    exact foldB_app N k _ _ _ (by rw [List.length_drop]; omega)
theorem byt_take {l : List Int} (h : Byt l) (n : Nat) : Byt (l.take n) := fun x hx => h x (List.mem_of_mem_take hx)
theorem byt_drop {l : List Int} (h : Byt l) (n : Nat) : Byt (l.drop n) := fun x hx => h x (List.mem_of_mem_drop hx)
theorem byt_app {l m : List Int} (h : Byt l) (h' : Byt m) : Byt (l ++ m) := fun x hx => (List.mem_append.1 hx).elim (h x) (h' x)
theorem ref_blocks (N : Nat) (hN : 70 ≤ N) (a3 : Arr 32) (msg : List Int) (hB : Byt msg) (hl : msg.length < 1099511627776) : ∀ (k i m : Nat) (s : Arr 8), msg.length = 64 * (i + k) → k < m →
    L_ref02_Sum_0 N m ((64 * i : Nat) : Int) a3 s msg = L_ref02_Sum_3 N (foldB N k s (msg.drop (64 * i))) N 0 (Arr.zero 32)
  | k, i, 0, s, _, h => by omega
  | 0, i, m + 1, s, h, _ => by
    rw [L_ref02_Sum_0, show decide (((64 * i : Nat) : Int) < (msg.length : Int)) = false by rw [decide_eq_false_iff_not]; omega]; rfl
  | k + 1, i, m + 1, s, h, hm => by
    rw [L_ref02_Sum_0, show decide (((64 * i : Nat) : Int) < (msg.length : Int)) = true by rw [decide_eq_true_eq]; omega]
    simp (disch := omega) only [if_true?, ck_of, gd_of]
    rw [show (((64 * i : Nat) : Int) + 64).toNat - ((64 * i : Nat) : Int).toNat = 64 by omega, Int.toNat_natCast]
    rw [comp_2 N hN s _ (by rw [List.length_take, List.length_drop]; omega) (byt_take (byt_drop hB _) _), show ((64 * i : Nat) : Int) + 64 = ((64 * (i + 1) : Nat) : Int) by omega, ref_blocks N hN a3 msg hB hl k (i + 1) m _ (by omega) (by omega), foldB, List.drop_drop]
    rfl
end Go.Proofs.Tryd
namespace Go.Proofs.Tryd
open Go.Eng

theorem byt_ints (t : Str) : Byt (intsS t) := by
  intro x hx
  obtain ⟨c, _, rfl⟩ := List.mem_map.1 hx
  have := c.toNat_lt
  omega
theorem ints_bytes {l : List Int} (h : Byt l) : intsS (bytesI l) = l := by
  induction l with
  | nil => rfl
  | cons x l ih =>
    have hx := h x (by simp)
    have : intsS (bytesI (x :: l)) = ((UInt8.ofNat x.toNat).toNat : Int) :: intsS (bytesI l) := rfl
    rw [this, ih fun y hy => h y (by simp [hy])]
    congr 1
    rw [UInt8.toNat_ofNat']
    omega
theorem bytesI_len {l : List Int} : (bytesI l).length = l.length := List.length_map _
theorem ints_take (t : Str) (n : Nat) : (intsS t).take n = intsS (t.take n) := (List.map_take).symm
theorem ints_app (t u : Str) : intsS (t ++ u) = intsS t ++ intsS u := List.map_append
theorem w64 {x : Int} (h : 0 ≤ x) (h' : x < 18446744073709551616) : IntKind.wrap .u64 x = x := Go.u64_wrap_id x h h'
theorem w8 {x : Int} (h : 0 ≤ x) (h' : x < 256) : IntKind.wrap .u8 x = x := by
  have : IntKind.wrap .u8 x = x % 256 := by simp [IntKind.wrap, IntKind.bits, IntKind.signed]
  rw [this]; omega

def h0 : Arr 8 := Arr.of [1779033703, 3144134277, 1013904242, 2773480762, 1359893119, 2600822924, 528734635, 1541459225] rfl
/-- What a stream has been given. -/
structure Rep (N : Nat) (st : HashStream) (msg : List Int) : Prop where
  n : st.n = (msg.length : Int)
  state : st.state = foldB N (msg.length / 64) h0 msg
  tail : st.block.l.take (msg.length % 64) = msg.drop (64 * (msg.length / 64))
  byt : Byt msg

theorem add_step (N m : Nat) (a1 : Str) (s : Arr 8) (b : Arr 64) (n : Nat) (h : a1 ≠ []) (hn : n < 1099511627776) (ha : a1.length < 1099511627776) :
    L_hash_Stream_Add_0 N (m + 1) a1 s b n = if n % 64 + min a1.length (64 - n % 64) = 64 then bd? (F_hash_compress N s (b.put (n % 64) ((intsS a1).take (min a1.length (64 - n % 64)))).l) (fun v => L_hash_Stream_Add_0 N m (a1.drop (min a1.length (64 - n % 64))) v (b.put (n % 64) ((intsS a1).take (min a1.length (64 - n % 64)))) ((n + min a1.length (64 - n % 64) : Nat) : Int)) else L_hash_Stream_Add_0 N m (a1.drop (min a1.length (64 - n % 64))) s (b.put (n % 64) ((intsS a1).take (min a1.length (64 - n % 64)))) ((n + min a1.length (64 - n % 64) : Nat) : Int) := by
  have e : Int.tmod (n : Int) 64 = ((n % 64 : Nat) : Int) := (Int.ofNat_tmod n 64).symm
  have hb : (a1 == ([] : Str)) = false := by cases a1 with
    | nil => exact absurd rfl h
    | cons x y => rfl
  rw [L_hash_Stream_Add_0, hb, if_false?, e, Int.toNat_natCast]
  generalize hA : n % 64 = A
  have hA' : A < 64 := by omega
  generalize hC : min a1.length (64 - A) = C
  have hC' : C ≤ a1.length := by omega
  have hC2 : A + C ≤ 64 := by omega
  have hd : (a1.drop C).take (a1.length - C) = a1.drop C := List.take_of_length_le (by rw [List.length_drop]; exact Nat.le_refl _)
  rw [Int.toNat_natCast, w64 (x := (C : Int)) (by omega) (by omega), w64 (x := (n : Int) + (C : Int)) (by omega) (by omega), hd, show ((n : Int) + (C : Int)) = ((n + C : Nat) : Int) by omega]
  simp (disch := omega) only [ck_of, gd_of]
  by_cases hq : A + C = 64
  · rw [if_pos hq, show ((A : Int) + (C : Int) == 64) = true by simp; omega, if_true?]
  · rw [if_neg hq, show ((A : Int) + (C : Int) == 64) = false by simp; omega, if_false?]
theorem add_rep (N : Nat) (hN : 70 ≤ N) : ∀ (m : Nat) (a1 : Str) (st : HashStream) (msg : List Int), Rep N st msg → (a1.length = 0 ∧ 1 ≤ m) ∨ (msg.length % 64 + a1.length) / 64 + 2 ≤ m → msg.length + a1.length < 1099511627776 → ∃ st', L_hash_Stream_Add_0 N m a1 st.state st.block st.n = some st' ∧ Rep N st' (msg ++ intsS a1)
  | 0, a1, st, msg, _, h, _ => by omega
  | m + 1, [], st, msg, hR, _, _ => by
    refine ⟨st, ?_, ?_⟩
    · rw [L_hash_Stream_Add_0]; rfl
    · show Rep N st (msg ++ [])
      rw [List.append_nil]; exact hR
  | m + 1, x :: a, st, msg, hR, h, hl => by
    have h : (msg.length % 64 + (x :: a).length) / 64 + 2 ≤ m + 1 := h.elim (fun h => by simp at h) id
    generalize hxa : x :: a = a1 at h hl ⊢
    have hne : a1 ≠ [] := by rw [← hxa]; exact List.cons_ne_nil _ _
    have hpos : 0 < a1.length := by rw [← hxa]; exact Nat.succ_pos _
    clear hxa
    rw [hR.n, add_step N m a1 st.state st.block msg.length hne (by omega) (by omega)]
    have hA' : msg.length % 64 < 64 := Nat.mod_lt _ (by omega)
    have htl := hR.tail
    have hst := hR.state
    have hdm := Nat.div_add_mod msg.length 64
    generalize hA : msg.length % 64 = A at *
    generalize hQ : msg.length / 64 = Q at *
    generalize hC : min a1.length (64 - A) = C
    have hC' : C ≤ a1.length := by omega
    have hC0 : 0 < C := by omega
    have hC2 : A + C ≤ 64 := by omega
    have hlt : ((intsS a1).take C).length = C := by rw [List.length_take, intsS_len]; omega
    have hput : (st.block.put A ((intsS a1).take C)).l = st.block.l.take A ++ (intsS a1).take C ++ st.block.l.drop (A + C) := by
      rw [Arr.l_put (by omega), hlt]
    have hsp : a1 = a1.take C ++ a1.drop C := (List.take_append_drop C a1).symm
    have hm2 : msg ++ intsS a1 = (msg ++ intsS (a1.take C)) ++ intsS (a1.drop C) := by
      rw [List.append_assoc, ← ints_app, List.take_append_drop]
    have hl2 : (msg ++ intsS (a1.take C)).length = msg.length + C := by
      rw [List.length_append, ← ints_take, hlt]
    have hB2 : Byt (msg ++ intsS (a1.take C)) := byt_app hR.byt (byt_ints _)
    rw [hm2]
    by_cases hq : A + C = 64
    · rw [if_pos hq]
      have hpl : (st.block.put A ((intsS a1).take C)).l = st.block.l.take A ++ (intsS a1).take C := by
        rw [hput, hq, List.drop_eq_nil_of_le (by rw [st.block.len]; exact Nat.le_refl _), List.append_nil]
      have hblk : (st.block.put A ((intsS a1).take C)).l = ((msg ++ intsS (a1.take C)).drop (64 * Q)).take 64 := by
        have h64 : (msg.drop (64 * Q) ++ intsS (a1.take C)).take 64 = msg.drop (64 * Q) ++ intsS (a1.take C) := List.take_of_length_le (by rw [List.length_append, List.length_drop, ← ints_take, hlt]; omega)
        rw [hpl, List.drop_append_of_le_length (by omega), htl, ints_take, h64]
      have hcomp := comp_1 N hN st.state (st.block.put A ((intsS a1).take C)).l (Arr.len _) (by rw [hblk]; exact byt_take (byt_drop hB2 _) _)
      rw [hcomp, bd_some]
      have hR' : Rep N (HashStream.mk (comp N st.state (st.block.put A ((intsS a1).take C)).l) (st.block.put A ((intsS a1).take C)) ((msg.length + C : Nat) : Int)) (msg ++ intsS (a1.take C)) := by
        refine ⟨?_, ?_, ?_, hB2⟩
        · rw [hl2]
        · rw [hl2, show (msg.length + C) / 64 = Q + 1 by omega, foldB_succ, foldB_app N Q h0 msg _ (by omega), ← hst, hblk]
        · rw [hl2, show (msg.length + C) % 64 = 0 by omega, show (msg.length + C) / 64 = Q + 1 by omega, List.take_zero, List.drop_eq_nil_of_le (by omega)]
      exact add_rep N hN m (a1.drop C) _ _ hR' (.inr (by rw [hl2, List.length_drop]; omega)) (by rw [hl2, List.length_drop]; omega)
    · rw [if_neg hq]
      have hR' : Rep N (HashStream.mk st.state (st.block.put A ((intsS a1).take C)) ((msg.length + C : Nat) : Int)) (msg ++ intsS (a1.take C)) := by
        refine ⟨?_, ?_, ?_, hB2⟩
        · rw [hl2]
        · rw [hl2, show (msg.length + C) / 64 = Q by omega, foldB_app N Q h0 msg _ (by omega), ← hst]
        · rw [hl2, show (msg.length + C) % 64 = A + C by omega, show (msg.length + C) / 64 = Q by omega, hput, List.drop_append_of_le_length (by omega), ← htl, ints_take]
          have hln : (st.block.l.take A ++ intsS (a1.take C)).length = A + C := by rw [List.length_append, List.length_take, st.block.len, ← ints_take, hlt]; omega
          rw [List.take_append_of_le_length (Nat.le_of_eq hln.symm), List.take_of_length_le (Nat.le_of_eq hln)]
      exact add_rep N hN m (a1.drop C) _ _ hR' (.inl (by rw [List.length_drop]; omega)) (by rw [hl2, List.length_drop]; omega)
theorem Add_rep (N : Nat) (hN : 70 ≤ N) (st : HashStream) (msg : List Int) (t : Str) (hR : Rep N st msg) (h : t.length / 64 + 3 ≤ N) (hl : msg.length + t.length < 1099511627776) : ∃ st', F_hash_Stream_Add N st t = some st' ∧ Rep N st' (msg ++ intsS t) :=
  add_rep N hN N t st msg hR (.inr (by omega)) hl

/-- The eight bytes of the length. -/
def lenB (n : Int) : List Int := [IntKind.wrap .u8 (n / 2 ^ (56 : Nat)), IntKind.wrap .u8 (n / 2 ^ (48 : Nat)), IntKind.wrap .u8 (n / 2 ^ (40 : Nat)), IntKind.wrap .u8 (n / 2 ^ (32 : Nat)), IntKind.wrap .u8 (n / 2 ^ (24 : Nat)), IntKind.wrap .u8 (n / 2 ^ (16 : Nat)), IntKind.wrap .u8 (n / 2 ^ (8 : Nat)), IntKind.wrap .u8 (n / 2 ^ (0 : Nat))]
theorem wrap_u8 (n : Int) : 0 ≤ IntKind.wrap .u8 n ∧ IntKind.wrap .u8 n < 256 := by
  have : IntKind.wrap .u8 n = n % 256 := by simp [IntKind.wrap, IntKind.bits, IntKind.signed]
  omega
theorem byt_lenB (n : Int) : Byt (lenB n) := by
  intro x hx
  simp only [lenB, List.mem_cons, List.not_mem_nil, or_false] at hx
  rcases hx with rfl | rfl | rfl | rfl | rfl | rfl | rfl | rfl <;> exact wrap_u8 _
theorem len_1 (N n : Nat) (st : HashStream) (a : List Int) (ha : a.length < 1099511627776) : L_hash_Stream_Sum_1 N st (n + 9) 0 a = (bd? (F_hash_Stream_Add N st (bytesI (a ++ lenB (IntKind.wrap .u64 (8 * st.n))))) fun v4 => L_hash_Stream_Sum_2 N v4 N 0 (Arr.zero 32)) := by
  generalize hz : IntKind.wrap .u64 (8 * st.n) = z
  have n1 : (0 : Int) + 1 = 1 := rfl
  have n2 : (1 : Int) + 1 = 2 := rfl
  have n3 : (2 : Int) + 1 = 3 := rfl
  have n4 : (3 : Int) + 1 = 4 := rfl
  have n5 : (4 : Int) + 1 = 5 := rfl
  have n6 : (5 : Int) + 1 = 6 := rfl
  have n7 : (6 : Int) + 1 = 7 := rfl
  have n8 : (7 : Int) + 1 = 8 := rfl
  have d0 : decide ((0 : Int) < 8) = true := rfl
  have d1 : decide ((1 : Int) < 8) = true := rfl
  have d2 : decide ((2 : Int) < 8) = true := rfl
  have d3 : decide ((3 : Int) < 8) = true := rfl
  have d4 : decide ((4 : Int) < 8) = true := rfl
  have d5 : decide ((5 : Int) < 8) = true := rfl
  have d6 : decide ((6 : Int) < 8) = true := rfl
  have d7 : decide ((7 : Int) < 8) = true := rfl
  have d8 : decide ((8 : Int) < 8) = false := rfl
  have eb : (IntKind.bits .u64 : Int) = 64 := rfl
  simp (disch := first | omega | (simp only [List.length_append, List.length_cons, List.length_nil]; omega)) only [L_hash_Stream_Sum_1, hz, n1, n2, n3, n4, n5, n6, n7, n8, d0, d1, d2, d3, d4, d5, d6, d7, d8, if_true?, if_false?, ck_of, eb, gd_of, List.append_assoc, List.cons_append, List.nil_append]
  rfl
theorem len_2 (N n : Nat) (p : List Int) (a : List Int) (ha : a.length < 1099511627776) : L_ref02_padded_1 N p (n + 9) 0 a = some (a ++ lenB (IntKind.wrap .u64 (8 * IntKind.wrap .u64 (p.length : Int)))) := by
  generalize hz : IntKind.wrap .u64 (8 * IntKind.wrap .u64 (p.length : Int)) = z
  have n1 : (0 : Int) + 1 = 1 := rfl
  have n2 : (1 : Int) + 1 = 2 := rfl
  have n3 : (2 : Int) + 1 = 3 := rfl
  have n4 : (3 : Int) + 1 = 4 := rfl
  have n5 : (4 : Int) + 1 = 5 := rfl
  have n6 : (5 : Int) + 1 = 6 := rfl
  have n7 : (6 : Int) + 1 = 7 := rfl
  have n8 : (7 : Int) + 1 = 8 := rfl
  have d0 : decide ((0 : Int) < 8) = true := rfl
  have d1 : decide ((1 : Int) < 8) = true := rfl
  have d2 : decide ((2 : Int) < 8) = true := rfl
  have d3 : decide ((3 : Int) < 8) = true := rfl
  have d4 : decide ((4 : Int) < 8) = true := rfl
  have d5 : decide ((5 : Int) < 8) = true := rfl
  have d6 : decide ((6 : Int) < 8) = true := rfl
  have d7 : decide ((7 : Int) < 8) = true := rfl
  have d8 : decide ((8 : Int) < 8) = false := rfl
  have eb : (IntKind.bits .u64 : Int) = 64 := rfl
  simp (disch := first | omega | (simp only [List.length_append, List.length_cons, List.length_nil]; omega)) only [L_ref02_padded_1, hz, n1, n2, n3, n4, n5, n6, n7, n8, d0, d1, d2, d3, d4, d5, d6, d7, d8, if_true?, if_false?, ck_of, eb, gd_of, List.append_assoc, List.cons_append, List.nil_append]
  rfl
/-- How many zeros come: both loops end with the same ones. -/
theorem pad_ex (N : Nat) (st : HashStream) (p : List Int) (hn : st.n = (p.length : Int)) (hl : p.length < 549755813888) : ∀ (k m m' : Nat) (a : List Int), (p.length + a.length + k) % 64 = 56 → k < 64 → k < m → k < m' → a.length + k < 549755813888 →
    ∃ z, (p.length + a.length + z) % 64 = 56 ∧ z ≤ k ∧ L_hash_Stream_Sum_0 N st m a = L_hash_Stream_Sum_1 N st N 0 (a ++ List.replicate z 0) ∧ L_ref02_padded_0 N p m' (p ++ a) = L_ref02_padded_1 N p N 0 (p ++ (a ++ List.replicate z 0))
  | k, 0, m', a, _, _, h, _, _ => by omega
  | k, m + 1, 0, a, _, _, _, h, _ => by omega
  | k, m + 1, m' + 1, a, h, hk, hm, hm', hal => by
    have e1 : Int.tmod ((p.length : Int) + (a.length : Int)) 64 = (((p.length + a.length) % 64 : Nat) : Int) := by
      rw [← Int.natCast_add]; exact (Int.ofNat_tmod _ 64).symm
    have e2 : Int.tmod (((p ++ a).length : Nat) : Int) 64 = (((p.length + a.length) % 64 : Nat) : Int) := by
      rw [List.length_append]; exact (Int.ofNat_tmod _ 64).symm
    rw [L_hash_Stream_Sum_0, L_ref02_padded_0, hn, e1, e2, ck_of (by omega) (by omega), ck_of (by omega) (by omega)]
    by_cases hz : (p.length + a.length) % 64 = 56
    · refine ⟨0, hz, Nat.zero_le _, ?_, ?_⟩
      · rw [show ((((p.length + a.length) % 64 : Nat) : Int) != 56) = false by simp; omega, if_false?]; simp
      · rw [show ((((p.length + a.length) % 64 : Nat) : Int) != 56) = false by simp; omega, if_false?]; simp
    · rw [show ((((p.length + a.length) % 64 : Nat) : Int) != 56) = true by simp; omega, if_true?, if_true?, gd_of (by simp only [List.length_cons, List.length_nil]; omega), gd_of (by simp only [List.length_append, List.length_cons, List.length_nil]; omega)]
      obtain ⟨k', rfl⟩ : ∃ k', k = k' + 1 := ⟨k - 1, by cases k with
        | zero => exact absurd h hz
        | succ k => rfl⟩
      obtain ⟨z, h1, h2, h3, h4⟩ := pad_ex N st p hn hl k' m m' (a ++ [0]) (by simp only [List.length_append, List.length_cons, List.length_nil]; omega) (by omega) (by omega) (by omega) (by simp only [List.length_append, List.length_cons, List.length_nil]; omega)
      simp only [List.length_append, List.length_cons, List.length_nil] at h1
      refine ⟨z + 1, by omega, by omega, ?_, ?_⟩
      · rw [h3, List.append_assoc, List.replicate_succ]; rfl
      · rw [List.append_assoc, h4, List.append_assoc, List.replicate_succ]; rfl

/-- The bytes of a state. -/
theorem out_eq (N : Nat) (v : HashStream) : ∀ (k t m m' : Nat) (w : Arr 32), t + k = 32 → k < m → k < m' → Byt w.l → ∃ r, L_hash_Stream_Sum_2 N v m t w = some r ∧ L_ref02_Sum_3 N v.state m' t w = some r ∧ Byt r.l
  | k, t, 0, m', w, _, h, _, _ => by omega
  | k, t, m + 1, 0, w, _, _, h, _ => by omega
  | 0, t, m + 1, m' + 1, w, h, _, _, hB => by
    rw [L_hash_Stream_Sum_2, L_ref02_Sum_3, show decide ((t : Int) < 32) = false by rw [decide_eq_false_iff_not]; omega]
    exact ⟨_, rfl, rfl, hB⟩
  | k + 1, t, m + 1, m' + 1, w, h, hm, hm', hB => by
    have e1 : Int.tdiv (t : Int) 4 = ((t / 4 : Nat) : Int) := (Int.ofNat_tdiv t 4).symm
    have e2 : Int.tmod (t : Int) 4 = ((t % 4 : Nat) : Int) := (Int.ofNat_tmod t 4).symm
    have eb : (IntKind.bits .u32 : Int) = 32 := rfl
    rw [L_hash_Stream_Sum_2, L_ref02_Sum_3, show decide ((t : Int) < 32) = true by rw [decide_eq_true_eq]; omega, e1, e2]
    simp (disch := omega) only [if_true?, ck_of, gd_of, eb, get_arr, cast_succ]
    refine out_eq N v k (t + 1) m m' _ (by omega) (by omega) (by omega) ?_
    intro x hx
    rw [Arr.l_set] at hx
    rcases List.mem_or_eq_of_mem_set hx with h | rfl
    · exact hB x h
    · exact wrap_u8 _
theorem Sum_eq (N : Nat) (hN : 100 ≤ N) (st : HashStream) (msg : List Int) (hR : Rep N st msg) (hl : msg.length / 64 + 4 ≤ N) (hl' : msg.length < 274877906944) : ∃ r, F_hash_Stream_Sum N st = some r ∧ F_ref02_Sum N msg = some r ∧ Byt r.l := by
  obtain ⟨n, rfl⟩ : ∃ n, N = n + 9 := ⟨N - 9, by omega⟩
  obtain ⟨z, h1, h2, h3, h4⟩ := pad_ex (n + 9) st msg hR.n (by omega) ((64 + 56 - (msg.length + 1) % 64) % 64) (n + 9) (n + 9) [128] (by show (msg.length + 1 + _) % 64 = 56; omega) (by omega) (by omega) (by omega) (by show 1 + _ < _; omega)
  have h1 : (msg.length + 1 + z) % 64 = 56 := h1
  generalize hd : [(128 : Int)] ++ List.replicate z 0 = d at h3 h4
  have hdl : d.length = 1 + z := by rw [← hd]; simp; omega
  have hz : z < 64 := by omega
  have hdB : Byt d := by
    intro x hx
    rw [← hd] at hx
    rcases List.mem_append.1 hx with h | h
    · simp at h; omega
    · have := List.eq_of_mem_replicate h; omega
  rw [len_1 (n + 9) n st d (by omega), hR.n] at h3
  rw [len_2 (n + 9) n msg _ (by rw [List.length_append]; omega), w64 (x := (msg.length : Int)) (by omega) (by omega)] at h4
  generalize hL : lenB (IntKind.wrap .u64 (8 * (msg.length : Int))) = L at h3 h4
  have hLl : L.length = 8 := by rw [← hL]; rfl
  have hLB : Byt L := by rw [← hL]; exact byt_lenB _
  obtain ⟨st', g1, g2⟩ := Add_rep (n + 9) (by omega) st msg (bytesI (d ++ L)) hR (by rw [bytesI_len, List.length_append]; omega) (by rw [bytesI_len, List.length_append]; omega)
  rw [g1, bd_some] at h3
  rw [ints_bytes (byt_app hdB hLB)] at g2
  obtain ⟨r, o1, o2, o3⟩ := out_eq (n + 9) st' 32 0 (n + 9) (n + 9) (Arr.zero 32) (by omega) (by omega) (by omega) (by intro x hx; have := List.eq_of_mem_replicate hx; omega)
  refine ⟨r, ?_, ?_, o3⟩
  · unfold F_hash_Stream_Sum
    rw [h3]; exact o1
  · have hm : (msg ++ (d ++ L)).length = 64 * ((msg ++ (d ++ L)).length / 64) := by
      simp only [List.length_append]; omega
    have hb := ref_blocks (n + 9) (by omega) (Arr.zero 32) (msg ++ (d ++ L)) g2.byt (by simp only [List.length_append]; omega) ((msg ++ (d ++ L)).length / 64) 0 (n + 9) h0 (by omega) (by simp only [List.length_append]; omega)
    unfold F_ref02_Sum F_ref02_padded
    rw [gd_of (by omega), gd_of (by simp only [List.length_cons, List.length_nil]; omega), h4, bd_some, List.append_assoc]
    refine Eq.trans hb ?_
    rw [Nat.mul_zero, List.drop_zero, ← g2.state]
    exact o2
end Go.Proofs.Tryd
namespace Go.Proofs.Tryd
open Go.Eng

theorem int_ex (N : Nat) : ∀ (k z m m' : Nat) (a : List Int), z < 128 ^ (k + 1) → z < 18446744073709551616 → k < m → k < m' → a.length + k < 1000000 →
    ∃ v, L_wire_Int_0 N m (z : Int) a = some (a ++ v) ∧ L_ref01_Int_0 N m' (z : Int) a = some (a ++ v) ∧ Byt v ∧ v.length ≤ k + 1
  | k, z, 0, m', a, _, _, h, _, _ => by omega
  | k, z, m + 1, 0, a, _, _, _, h, _ => by omega
  | k, z, m + 1, m' + 1, a, hz, hz2, hm, hm', hal => by
    rw [L_wire_Int_0, L_ref01_Int_0]
    have ew : IntKind.wrap .u8 (z : Int) = ((z % 256 : Nat) : Int) := by
      have : IntKind.wrap .u8 (z : Int) = (z : Int) % 256 := by simp [IntKind.wrap, IntKind.bits, IntKind.signed]
      rw [this]; omega
    by_cases h : 128 ≤ z
    · obtain ⟨k', rfl⟩ : ∃ k', k = k' + 1 := ⟨k - 1, by cases k with
        | zero => have : 128 ^ (0 + 1) = 128 := rfl; omega
        | succ k => rfl⟩
      have e1 : bits .or .u8 (IntKind.wrap .u8 (z : Int)) 128 = ((z % 128 + 128 : Nat) : Int) := by
        rw [ew, Go.Lib.u8_or128_any _ (by omega) (by omega)]; omega
      have e2 : Int.tmod (z : Int) 128 = ((z % 128 : Nat) : Int) := (Int.ofNat_tmod z 128).symm
      have e3 : Int.tdiv (z : Int) 128 = ((z / 128 : Nat) : Int) := (Int.ofNat_tdiv z 128).symm
      have e4 : (z : Int) / 2 ^ (7 : Int).toNat = ((z / 128 : Nat) : Int) := rfl
      have e5 : IntKind.wrap .u8 (((z % 128 : Nat) : Int) + 128) = ((z % 128 + 128 : Nat) : Int) := by
        rw [w8 (by omega) (by omega)]; omega
      rw [e1, e2, e3, e4, w8 (x := ((z % 128 : Nat) : Int)) (by omega) (by omega), e5, w64 (x := ((z / 128 : Nat) : Int)) (by omega) (by omega)]
      rw [show decide ((z : Int) > 127) = true by rw [decide_eq_true_eq]; omega, show decide ((z : Int) ≥ 128) = true by rw [decide_eq_true_eq]; omega, if_true?, if_true?, gd_of (by simp only [List.length_cons, List.length_nil]; omega), gd_of (by simp only [List.length_cons, List.length_nil]; omega)]
      obtain ⟨v, h1, h2, h3, h4⟩ := int_ex N k' (z / 128) m m' (a ++ [((z % 128 + 128 : Nat) : Int)]) (by have : 128 ^ (k' + 1 + 1) = 128 ^ (k' + 1) * 128 := rfl; omega) (by omega) (by omega) (by omega) (by simp only [List.length_append, List.length_cons, List.length_nil]; omega)
      refine ⟨((z % 128 + 128 : Nat) : Int) :: v, ?_, ?_, ?_, by simp only [List.length_cons]; omega⟩
      · rw [h1, List.append_assoc]; rfl
      · rw [h2, List.append_assoc]; rfl
      · intro x hx
        rcases List.mem_cons.1 hx with rfl | hx
        · omega
        · exact h3 x hx
    · rw [show decide ((z : Int) > 127) = false by rw [decide_eq_false_iff_not]; omega, show decide ((z : Int) ≥ 128) = false by rw [decide_eq_false_iff_not]; omega, if_false?, if_false?, gd_of (by simp only [List.length_cons, List.length_nil]; omega)]
      exact ⟨_, rfl, rfl, fun x hx => by rw [List.mem_singleton.1 hx]; exact wrap_u8 _, by simp⟩
theorem Int_nat (N n : Nat) (hN : 20 ≤ N) (hn : n < 4611686018427387904) : ∃ v, F_wire_Int N (n : Int) = some v ∧ F_ref01_Int N (n : Int) = some v ∧ Byt v ∧ v.length ≤ 10 := by
  obtain ⟨v, h1, h2, h3, h4⟩ := int_ex N 9 (2 * n) N N [] (by have : 128 ^ (9 + 1) = 1180591620717411303424 := rfl; omega) (by omega) (by omega) (by omega) (by simp)
  have e1 : (2 : Int) ^ (63 : Int).toNat = 9223372036854775808 := rfl
  have e2 : (2 : Int) ^ (1 : Int).toNat = 2 := rfl
  refine ⟨v, ?_, ?_, h3, h4⟩
  · unfold F_wire_Int
    rw [e1, e2, show (n : Int) / 9223372036854775808 = 0 by omega, w64 (x := (n : Int)) (by omega) (by omega), w64 (x := (n : Int) * 2) (by omega) (by omega), w64 (x := 0) (by omega) (by omega), show (n : Int) * 2 = ((2 * n : Nat) : Int) by omega, show (0 : Int) = ((0 : Nat) : Int) from rfl, Go.bits_xor_u64_nat _ _ (by omega) (by omega), Nat.xor_zero, h1]
    rfl
  · unfold F_ref01_Int
    rw [show decide ((n : Int) < 0) = false by rw [decide_eq_false_iff_not]; omega, if_false?, w64 (x := (n : Int)) (by omega) (by omega), w64 (x := (n : Int) * 2) (by omega) (by omega), show (n : Int) * 2 = ((2 * n : Nat) : Int) by omega, h2]
    rfl
theorem Bytes_eq (N : Nat) (s : Str) (hN : 20 ≤ N) (hs : s.length < 1099511627776) : ∃ v, F_wire_Bytes N s = some v ∧ F_ref01_Bytes N s = some v ∧ Byt v ∧ v.length ≤ s.length + 10 := by
  obtain ⟨v, h1, h2, h3, h4⟩ := Int_nat N s.length hN (by omega)
  refine ⟨v ++ intsS s, ?_, ?_, byt_app h3 (byt_ints s), by rw [List.length_append, intsS_len]; omega⟩
  · unfold F_wire_Bytes
    rw [h1, bd_some, gd_of (by rw [intsS_len]; omega)]
  · unfold F_ref01_Bytes
    rw [h2, bd_some, gd_of (by rw [intsS_len]; omega)]

/-- An upper bound of how much the parts add. -/
def tot : List Str → Nat
  | [] => 0
  | s :: l => s.length + 10 + tot l
theorem of_ex (N : Nat) (hN : 100 ≤ N) (p : List Str) (B : Nat) (hB : B / 64 + 8 ≤ N) (hB' : B < 274877906944) : ∀ (k i m m' : Nat) (st : HashStream) (msg : List Int), Rep N st msg → i + k = p.length → k < m → k < m' → msg.length + tot (p.drop i) ≤ B → p.length < 1000000000 →
    ∃ st' msg', Rep N st' msg' ∧ msg'.length ≤ B ∧ L_hash_Of_0 N p m i st.state st.block st.n = (bd? (F_hash_Stream_Sum N st') fun v10 => some (v10.part 0 16)) ∧ L_ref02_Input_0 N p m' i msg = some msg'
  | k, i, 0, m', st, msg, _, _, h, _, _, _ => by omega
  | k, i, m + 1, 0, st, msg, _, _, _, h, _, _ => by omega
  | 0, i, m + 1, m' + 1, st, msg, hR, hi, _, _, ht, _ => by
    refine ⟨st, msg, hR, by omega, ?_, ?_⟩
    · rw [L_hash_Of_0, show decide ((i : Int) < (p.length : Int)) = false by rw [decide_eq_false_iff_not]; omega]; rfl
    · rw [L_ref02_Input_0, show decide ((i : Int) < (p.length : Int)) = false by rw [decide_eq_false_iff_not]; omega]; rfl
  | k + 1, i, m + 1, m' + 1, st, msg, hR, hi, hm, hm', ht, hp => by
    have hlt : i < p.length := by omega
    rw [drop_cons hlt, tot] at ht
    obtain ⟨v, b1, b2, b3, b4⟩ := Bytes_eq N p[i] (by omega) (by omega)
    obtain ⟨st1, a1, a2⟩ := Add_rep N (by omega) st msg (bytesI v) hR (by rw [bytesI_len]; omega) (by rw [bytesI_len]; omega)
    rw [ints_bytes b3] at a2
    rw [L_hash_Of_0, L_ref02_Input_0, show decide ((i : Int) < (p.length : Int)) = true by rw [decide_eq_true_eq]; omega, if_true?, if_true?, get_of hlt, get_of hlt, b1, b2, bd_some, bd_some, gd_of (by omega), ck_of (by omega) (by omega)]
    have a1 : F_hash_Stream_Add N (HashStream.mk st.state st.block st.n) (bytesI v) = some st1 := a1
    rw [a1, bd_some, ck_of (by omega) (by omega), cast_succ]
    exact of_ex N hN p B hB hB' k (i + 1) m m' st1 _ a2 (by omega) (by omega) (by omega) (by rw [List.length_append]; omega) hp
theorem short_ex (N : Nat) (v : Arr 32) : ∀ (k t m : Nat) (w : Arr 16), t + k = 16 → k < m → w.l.take t = v.l.take t → L_ref02_Short_0 N v m t w = some (v.part 0 16)
  | k, t, 0, w, _, h, _ => by omega
  | 0, t, m + 1, w, h, _, hw => by
    obtain rfl : t = 16 := by omega
    rw [L_ref02_Short_0, show decide (((16 : Nat) : Int) < 16) = false from rfl, if_false?]
    congr 1
    apply Arr.ext
    rw [Arr.l_part (by omega), List.drop_zero, ← hw, List.take_of_length_le (by rw [w.len]; exact Nat.le_refl _)]
  | k + 1, t, m + 1, w, h, hm, hw => by
    rw [L_ref02_Short_0, show decide ((t : Int) < 16) = true by rw [decide_eq_true_eq]; omega]
    simp (disch := omega) only [if_true?, ck_of, gd_of, get_arr, cast_succ, Int.toNat_natCast]
    refine short_ex N v k (t + 1) m _ (by omega) (by omega) ?_
    have h1 : t < v.l.length := by rw [v.len]; omega
    have h2 : t < (w.l.set t (v.l.getD t 0)).length := by rw [List.length_set, w.len]; omega
    rw [Arr.l_set, List.take_succ_eq_append_getElem h2, List.take_succ_eq_append_getElem h1, List.take_set_of_le (Nat.le_refl t), hw, List.getElem_set_self]
    congr 2
    rw [List.getD_eq_getElem?_getD, List.getElem?_eq_getElem h1]; rfl

/-- hash.Of is what the specification says. -/
theorem Of_eq (N : Nat) (tag : Int) (p : List Str) (hN : 100 ≤ N) (hp : p.length < N) (hp' : p.length < 1000000000) (ht : tot p / 64 + 9 ≤ N) (ht' : tot p < 137438953472) : ∃ d : Arr 16, F_hash_Of N tag p = some d ∧ F_ref02_Of N tag p = some d ∧ Byt d.l := by
  have r0 : Rep N (HashStream.mk h0 (Arr.zero 64) 0) [] := ⟨rfl, rfl, rfl, by intro x hx; cases hx⟩
  have hb : Byt [IntKind.wrap .u8 tag] := fun x hx => by rw [List.mem_singleton.1 hx]; exact wrap_u8 _
  obtain ⟨st1, a1, a2⟩ := Add_rep N (by omega) _ [] (bytesI [IntKind.wrap .u8 tag]) r0 (by rw [bytesI_len]; simp only [List.length_cons, List.length_nil]; omega) (by rw [bytesI_len]; simp only [List.length_cons, List.length_nil]; omega)
  rw [ints_bytes hb] at a2
  obtain ⟨st', msg', g1, g2, g3, g4⟩ := of_ex N hN p (tot p + 1) (by omega) (by omega) p.length 0 N N st1 _ a2 (by omega) hp hp (by rw [List.drop_zero]; simp only [List.nil_append, List.length_cons, List.length_nil]; omega) hp'
  obtain ⟨r, s1, s2, s3⟩ := Sum_eq N hN st' msg' g1 (by omega) (by omega)
  refine ⟨r.part 0 16, ?_, ?_, ?_⟩
  · unfold F_hash_Of F_hash_Begin
    rw [bd_some]
    have a1 : F_hash_Stream_Add N (HashStream.mk (Arr.of [1779033703, 3144134277, 1013904242, 2773480762, 1359893119, 2600822924, 528734635, 1541459225] rfl) (Arr.zero 64) 0) (bytesI [IntKind.wrap .u8 tag]) = some st1 := a1
    rw [a1, bd_some]
    have g3 : L_hash_Of_0 N p N 0 st1.state st1.block st1.n = _ := g3
    rw [g3, s1, bd_some]
  · unfold F_ref02_Of F_ref02_Input F_ref02_Short
    have g4 : L_ref02_Input_0 N p N 0 [IntKind.wrap .u8 tag] = some msg' := g4
    rw [g4, bd_some, s2, bd_some]
    have := short_ex N r 16 0 N (Arr.zero 16) (by omega) (by omega) rfl
    have this : L_ref02_Short_0 N r N 0 (Arr.zero 16) = some (r.part 0 16) := this
    rw [this, bd_some]
  · rw [Arr.l_part (by omega)]
    exact byt_take (byt_drop s3 _) _
end Go.Proofs.Tryd
namespace Go.Proofs.Tryd
open Go.Eng

def nd (N : Nat) (a b : Arr 16) : Arr 16 := (F_merkle_Node N a b).getD default
def emp (N : Nat) : Arr 16 := (F_merkle_empty N).getD default
def lf (N : Nat) (s : Str) : Arr 16 := (F_merkle_Leaf N s).getD default
theorem node_ex (N : Nat) (hN : 100 ≤ N) (a b : Arr 16) : F_merkle_Node N a b = some (nd N a b) ∧ F_ref03_Node N a b = some (nd N a b) := by
  have ht : tot [bytesI a.l, bytesI b.l] = 52 := by
    show (bytesI a.l).length + 10 + ((bytesI b.l).length + 10 + 0) = 52
    rw [bytesI_len, bytesI_len, a.len, b.len]
  obtain ⟨d, h1, h2, _⟩ := Of_eq N 31 [bytesI a.l, bytesI b.l] hN (by simp only [List.length_cons, List.length_nil]; omega) (by simp only [List.length_cons, List.length_nil]; omega) (by omega) (by omega)
  have e1 : F_merkle_Node N a b = some d := by unfold F_merkle_Node; rw [h1, bd_some]
  have e2 : F_ref03_Node N a b = some d := by unfold F_ref03_Node; rw [h2, bd_some]
  have e3 : nd N a b = d := by unfold nd; rw [e1]; rfl
  rw [e3]; exact ⟨e1, e2⟩
theorem node_1 (N : Nat) (hN : 100 ≤ N) (a b : Arr 16) : F_merkle_Node N a b = some (nd N a b) := (node_ex N hN a b).1
theorem node_2 (N : Nat) (hN : 100 ≤ N) (a b : Arr 16) : F_ref03_Node N a b = some (nd N a b) := (node_ex N hN a b).2
theorem emp_ex (N : Nat) (hN : 100 ≤ N) : F_merkle_empty N = some (emp N) ∧ F_ref03_Empty N = some (emp N) := by
  obtain ⟨d, h1, h2, _⟩ := Of_eq N 32 [] hN (by simp only [List.length_nil]; omega) (by simp only [List.length_nil]; omega) (by show 0 / 64 + 9 ≤ N; omega) (by show 0 < _; omega)
  have e1 : F_merkle_empty N = some d := by unfold F_merkle_empty; rw [h1, bd_some]
  have e2 : F_ref03_Empty N = some d := by unfold F_ref03_Empty; rw [h2, bd_some]
  have e3 : emp N = d := by unfold emp; rw [e1]; rfl
  rw [e3]; exact ⟨e1, e2⟩
theorem emp_1 (N : Nat) (hN : 100 ≤ N) : F_merkle_empty N = some (emp N) := (emp_ex N hN).1
theorem emp_2 (N : Nat) (hN : 100 ≤ N) : F_ref03_Empty N = some (emp N) := (emp_ex N hN).2
theorem lf_ex (N : Nat) (hN : 100 ≤ N) (s : Str) (hs : s.length ≤ 2000) : F_merkle_Leaf N s = some (lf N s) ∧ F_ref03_Leaf N s = some (lf N s) := by
  obtain ⟨d, h1, h2, _⟩ := Of_eq N 30 [s] hN (by simp only [List.length_cons, List.length_nil]; omega) (by simp only [List.length_cons, List.length_nil]; omega) (by show (s.length + 10 + 0) / 64 + 9 ≤ N; omega) (by show s.length + 10 + 0 < _; omega)
  have e1 : F_merkle_Leaf N s = some d := by unfold F_merkle_Leaf; rw [h1, bd_some]
  have e2 : F_ref03_Leaf N s = some d := by unfold F_ref03_Leaf; rw [h2, bd_some]
  have e3 : lf N s = d := by unfold lf; rw [e1]; rfl
  rw [e3]; exact ⟨e1, e2⟩
theorem lf_1 (N : Nat) (hN : 100 ≤ N) (s : Str) (hs : s.length ≤ 2000) : F_merkle_Leaf N s = some (lf N s) := (lf_ex N hN s hs).1
theorem lf_2 (N : Nat) (hN : 100 ≤ N) (s : Str) (hs : s.length ≤ 2000) : F_ref03_Leaf N s = some (lf N s) := (lf_ex N hN s hs).2

theorem k0_fin : ∀ n : Fin 256, kstr0[n.val]? = some (UInt8.ofNat (Lib.bitLen n.val)) := by decide +kernel
theorem k0_get {β : Type} (y : Nat) (h : y < 256) (f : UInt8 → Option β) : get? kstr0 (IntKind.wrap .u8 (y : Int)) f = f (UInt8.ofNat (Lib.bitLen y)) := by
  rw [w8 (by omega) (by omega)]
  unfold get?
  rw [if_pos (by omega), Int.toNat_natCast, k0_fin ⟨y, h⟩]
theorem k0_nat (y : Nat) (h : y < 256) : ((UInt8.ofNat (Lib.bitLen y)).toNat : Int) = (Lib.bitLen y : Int) := by
  have : Lib.bitLen y ≤ 8 := Lib.bitLen_le8 ⟨y, h⟩
  rw [UInt8.toNat_ofNat']; omega
theorem len64_eq (N x : Nat) (hx : x < 4611686018427387904) : F_bits_Len64 N (x : Int) = some (Lib.bitLen x : Int) := by
  have p32 : (2 : Int) ^ (32 : Int).toNat = 4294967296 := rfl
  have p16 : (2 : Int) ^ (16 : Int).toNat = 65536 := rfl
  have p8 : (2 : Int) ^ (8 : Int).toNat = 256 := rfl
  have q32 : ∀ y : Nat, (y : Int) / 4294967296 = ((y / 4294967296 : Nat) : Int) := fun y => by omega
  have q16 : ∀ y : Nat, (y : Int) / 65536 = ((y / 65536 : Nat) : Int) := fun y => by omega
  have q8 : ∀ y : Nat, (y : Int) / 256 = ((y / 256 : Nat) : Int) := fun y => by omega
  have b8 : ∀ y : Nat, y < 256 → Lib.bitLen y ≤ 8 := fun y h => Lib.bitLen_le8 ⟨y, h⟩
  unfold F_bits_Len64
  rw [p32, p16, p8, q32, q16, q16, q8, q8, q8, q8]
  by_cases h1 : 4294967296 ≤ x
  · have s1 := Lib.bitLen_shift32 x h1 (by omega)
    rw [show decide ((x : Int) ≥ 4294967296) = true by rw [decide_eq_true_eq]; omega, if_true?]
    generalize hy : x / 4294967296 = y at *
    by_cases h2 : 65536 ≤ y
    · have s2 := Lib.bitLen_shift16 y h2 (by omega)
      rw [show decide ((y : Int) ≥ 65536) = true by rw [decide_eq_true_eq]; omega, if_true?, ck_of (by omega) (by omega)]
      generalize hz : y / 65536 = z at *
      by_cases h3 : 256 ≤ z
      · have s3 := Lib.bitLen_shift8 z h3 (by omega)
        have := b8 (z / 256) (by omega)
        rw [show decide ((z : Int) ≥ 256) = true by rw [decide_eq_true_eq]; omega, if_true?, ck_of (by omega) (by omega), k0_get _ (by omega), k0_nat _ (by omega), ck_of (by omega) (by omega), ck_of (by omega) (by omega)]
        congr 1; omega
      · have := b8 z (by omega)
        rw [show decide ((z : Int) ≥ 256) = false by rw [decide_eq_false_iff_not]; omega, if_false?, k0_get _ (by omega), k0_nat _ (by omega), ck_of (by omega) (by omega), ck_of (by omega) (by omega)]
        congr 1; omega
    · rw [show decide ((y : Int) ≥ 65536) = false by rw [decide_eq_false_iff_not]; omega, if_false?]
      by_cases h3 : 256 ≤ y
      · have s3 := Lib.bitLen_shift8 y h3 (by omega)
        have := b8 (y / 256) (by omega)
        rw [show decide ((y : Int) ≥ 256) = true by rw [decide_eq_true_eq]; omega, if_true?, ck_of (by omega) (by omega), k0_get _ (by omega), k0_nat _ (by omega), ck_of (by omega) (by omega), ck_of (by omega) (by omega)]
        congr 1; omega
      · have := b8 y (by omega)
        rw [show decide ((y : Int) ≥ 256) = false by rw [decide_eq_false_iff_not]; omega, if_false?, k0_get _ (by omega), k0_nat _ (by omega), ck_of (by omega) (by omega), ck_of (by omega) (by omega)]
        congr 1; omega
  · rw [show decide ((x : Int) ≥ 4294967296) = false by rw [decide_eq_false_iff_not]; omega, if_false?]
    by_cases h2 : 65536 ≤ x
    · have s2 := Lib.bitLen_shift16 x h2 (by omega)
      rw [show decide ((x : Int) ≥ 65536) = true by rw [decide_eq_true_eq]; omega, if_true?, ck_of (by omega) (by omega)]
      generalize hz : x / 65536 = z at *
      by_cases h3 : 256 ≤ z
      · have s3 := Lib.bitLen_shift8 z h3 (by omega)
        have := b8 (z / 256) (by omega)
        rw [show decide ((z : Int) ≥ 256) = true by rw [decide_eq_true_eq]; omega, if_true?, ck_of (by omega) (by omega), k0_get _ (by omega), k0_nat _ (by omega), ck_of (by omega) (by omega), ck_of (by omega) (by omega)]
        congr 1; omega
      · have := b8 z (by omega)
        rw [show decide ((z : Int) ≥ 256) = false by rw [decide_eq_false_iff_not]; omega, if_false?, k0_get _ (by omega), k0_nat _ (by omega), ck_of (by omega) (by omega), ck_of (by omega) (by omega)]
        congr 1; omega
    · rw [show decide ((x : Int) ≥ 65536) = false by rw [decide_eq_false_iff_not]; omega, if_false?]
      by_cases h3 : 256 ≤ x
      · have s3 := Lib.bitLen_shift8 x h3 (by omega)
        have := b8 (x / 256) (by omega)
        rw [show decide ((x : Int) ≥ 256) = true by rw [decide_eq_true_eq]; omega, if_true?, ck_of (by omega) (by omega), k0_get _ (by omega), k0_nat _ (by omega), ck_of (by omega) (by omega), ck_of (by omega) (by omega)]
        congr 1; omega
      · have := b8 x (by omega)
        rw [show decide ((x : Int) ≥ 256) = false by rw [decide_eq_false_iff_not]; omega, if_false?, k0_get _ (by omega), k0_nat _ (by omega), ck_of (by omega) (by omega), ck_of (by omega) (by omega)]
        congr 1; omega
/-- A number lies between two powers. -/
theorem len_pow : ∀ (k x : Nat), x < 2 ^ k → k ≤ 62 → 0 < x → 2 ^ (Lib.bitLen x - 1) ≤ x ∧ x < 2 * 2 ^ (Lib.bitLen x - 1) ∧ 1 ≤ Lib.bitLen x ∧ Lib.bitLen x ≤ k
  | 0, x, h, _, h0 => by simp at h; omega
  | k + 1, x, h, hk, h0 => by
    have hx : x < 2 ^ 64 := Nat.lt_of_lt_of_le h (Nat.pow_le_pow_right (by omega) (by omega))
    rw [Lib.bitLen_half x (by omega) hx]
    by_cases h1 : x / 2 = 0
    · have : Lib.bitLen 0 = 0 := by decide
      rw [h1, this]
      have : x = 1 := by omega
      subst this
      simp
    · obtain ⟨a, b, c, d⟩ := len_pow k (x / 2) (by rw [Nat.pow_succ] at h; omega) (by omega) (by omega)
      have e : 2 ^ (1 + Lib.bitLen (x / 2) - 1) = 2 * 2 ^ (Lib.bitLen (x / 2) - 1) := by
        rw [show 1 + Lib.bitLen (x / 2) - 1 = (Lib.bitLen (x / 2) - 1) + 1 by omega, Nat.pow_succ]; omega
      rw [e]
      omega
/-- The greatest power of 2 below a number. -/
def sp (n : Nat) : Nat := 2 ^ (Lib.bitLen (n - 1) - 1)
theorem sp_lt (n : Nat) (h : 2 ≤ n) (h' : n ≤ 2199023255552) : 1 ≤ sp n ∧ sp n < n ∧ n ≤ 2 * sp n := by
  obtain ⟨a, b, c, d⟩ := len_pow 62 (n - 1) (by omega) (by omega) (by omega)
  have : 0 < 2 ^ (Lib.bitLen (n - 1) - 1) := Nat.two_pow_pos _
  unfold sp; omega
theorem split_1 (N n : Nat) (h : 2 ≤ n) (h' : n ≤ 2199023255552) : F_merkle_split N (n : Int) = some ((sp n : Nat) : Int) := by
  obtain ⟨a, b, c, d⟩ := len_pow 62 (n - 1) (by omega) (by omega) (by omega)
  have eb : (IntKind.bits .i64 : Int) = 64 := rfl
  unfold F_merkle_split F_bits_Len
  rw [ck_of (by omega) (by omega), show (n : Int) - 1 = ((n - 1 : Nat) : Int) by omega, w64 (by omega) (by omega), len64_eq N (n - 1) (by omega), bd_some, bd_some, ck_of (by omega) (by omega), gd_of (by omega), gd_of (by omega)]
  have e : (1 : Int) * 2 ^ ((Lib.bitLen (n - 1) : Int) - 1).toNat = ((sp n : Nat) : Int) := by
    rw [show ((Lib.bitLen (n - 1) : Int) - 1).toNat = Lib.bitLen (n - 1) - 1 by omega, Int.one_mul]
    unfold sp
    rw [Int.natCast_pow]; rfl
  rw [e]
  have := sp_lt n h h'
  rw [ck_of (by omega) (by omega)]
theorem pow_uniq {a b n : Nat} (h1 : 2 ^ a < n) (h2 : n ≤ 2 * 2 ^ a) (h3 : 2 ^ b < n) (h4 : n ≤ 2 * 2 ^ b) : a = b := by
  rcases Nat.lt_trichotomy a b with h | h | h
  · have : 2 ^ (a + 1) ≤ 2 ^ b := Nat.pow_le_pow_right (by omega) h
    rw [Nat.pow_succ] at this; omega
  · exact h
  · have : 2 ^ (b + 1) ≤ 2 ^ a := Nat.pow_le_pow_right (by omega) h
    rw [Nat.pow_succ] at this; omega
theorem rsplit (N n : Nat) (h' : n ≤ 2199023255552) : ∀ (k m a : Nat), a + k = 45 → k < m → 2 ^ a < n → ∃ b, 2 ^ b < n ∧ n ≤ 2 * 2 ^ b ∧ L_ref03_split_0 N (n : Int) m ((2 ^ a : Nat) : Int) = some ((2 ^ b : Nat) : Int)
  | k, 0, a, _, h, _ => by omega
  | 0, m + 1, a, h, _, h2 => by
    obtain rfl : a = 45 := by omega
    have : 2 ^ 45 = 35184372088832 := rfl
    omega
  | k + 1, m + 1, a, h, hm, h2 => by
    have e : 2 * ((2 ^ a : Nat) : Int) = ((2 ^ (a + 1) : Nat) : Int) := by rw [Nat.pow_succ]; omega
    have e2 : 2 ^ (a + 1) = 2 ^ a * 2 := Nat.pow_succ ..
    rw [L_ref03_split_0, e, ck_of (by omega) (by omega)]
    by_cases h3 : 2 ^ (a + 1) < n
    · rw [show decide (((2 ^ (a + 1) : Nat) : Int) < (n : Int)) = true by rw [decide_eq_true_eq]; omega, if_true?]
      exact rsplit N n h' k m (a + 1) (by omega) (by omega) h3
    · rw [show decide (((2 ^ (a + 1) : Nat) : Int) < (n : Int)) = false by rw [decide_eq_false_iff_not]; omega, if_false?]
      exact ⟨a, h2, by omega, rfl⟩
theorem split_2 (N n : Nat) (hN : 50 ≤ N) (h : 2 ≤ n) (h' : n ≤ 2199023255552) : F_ref03_split N (n : Int) = some ((sp n : Nat) : Int) := by
  obtain ⟨b, h1, h2, h3⟩ := rsplit N n h' 45 N 0 (by omega) (by omega) (by show 1 < n; omega)
  have := sp_lt n h h'
  have e : Lib.bitLen (n - 1) - 1 = b := pow_uniq (n := n) (by show sp n < n; omega) (by show n ≤ 2 * sp n; omega) h1 h2
  unfold F_ref03_split
  refine Eq.trans h3 ?_
  unfold sp
  rw [e]
end Go.Proofs.Tryd
namespace Go.Proofs.Tryd
open Go.Eng

theorem same_len {α : Type} (l : List α) (k : Nat) : (l.drop k).take (l.length - k) = l.drop k := List.take_of_length_le (by rw [List.length_drop]; exact Nat.le_refl _)

theorem root_ex (N : Nat) (hN : 100 ≤ N) : ∀ (k d d' : Nat) (l : List (Arr 16)), l.length ≤ k → k < d → k < d' → l.length ≤ 1000000 → ∃ r, F_merkle_Root_r N d l = some r ∧ F_ref03_Root_r N d' l = some r
  | k, 0, d', l, _, h, _, _ => by omega
  | k, d + 1, 0, l, _, _, h, _ => by omega
  | k, d + 1, d' + 1, l, hl, hd, hd', hb => by
    rw [F_merkle_Root_r, F_ref03_Root_r]
    by_cases h0 : l.length = 0
    · rw [show ((l.length : Int) == 0) = true by rw [h0]; rfl, if_true?, if_true?, emp_1 N hN, emp_2 N hN]
      exact ⟨_, rfl, rfl⟩
    · rw [show ((l.length : Int) == 0) = false by simp; exact fun h => h0 (by rw [h]; rfl), if_false?, if_false?]
      by_cases h1 : l.length = 1
      · rw [show ((l.length : Int) == 1) = true by rw [h1]; rfl, if_true?, if_true?, show (0 : Int) = ((0 : Nat) : Int) from rfl, get_of (by omega)]
        exact ⟨_, rfl, rfl⟩
      · have hs := sp_lt l.length (by omega) (by omega)
        rw [show ((l.length : Int) == 1) = false by simp; omega, if_false?, if_false?, split_1 N l.length (by omega) (by omega), split_2 N l.length (by omega) (by omega) (by omega), bd_some, bd_some, gd_of (by omega), gd_of (by omega), gd_of (by omega), gd_of (by omega), Int.toNat_natCast, Int.toNat_natCast, Nat.sub_zero]
        obtain ⟨k', rfl⟩ : ∃ k', k = k' + 1 := ⟨k - 1, by omega⟩
        obtain ⟨x, x1, x2⟩ := root_ex N hN k' d d' (l.take (sp l.length)) (by rw [List.length_take]; omega) (by omega) (by omega) (by rw [List.length_take]; omega)
        obtain ⟨y, y1, y2⟩ := root_ex N hN k' d d' (l.drop (sp l.length)) (by rw [List.length_drop]; omega) (by omega) (by omega) (by rw [List.length_drop]; omega)
        rw [x1, x2, bd_some, bd_some, gd_of (by omega), gd_of (by omega), gd_of (by omega), same_len, y1, y2, bd_some, bd_some, node_1 N hN, node_2 N hN]
        exact ⟨_, rfl, rfl⟩
/-- The root of a list. -/
def rt (N : Nat) (l : List (Arr 16)) : Arr 16 := (F_merkle_Root N l).getD default
theorem rt_ex (N : Nat) (hN : 100 ≤ N) (l : List (Arr 16)) (h : l.length < N) (hb : l.length ≤ 1000000) : F_merkle_Root N l = some (rt N l) ∧ F_ref03_Root N l = some (rt N l) := by
  obtain ⟨r, h1, h2⟩ := root_ex N hN l.length N N l (Nat.le_refl _) h h hb
  have e1 : F_merkle_Root N l = some r := h1
  have e : rt N l = r := by unfold rt; rw [e1]; rfl
  rw [e]; exact ⟨h1, h2⟩
theorem rt_1 (N : Nat) (hN : 100 ≤ N) (l : List (Arr 16)) (h : l.length < N) (hb : l.length ≤ 1000000) : F_merkle_Root N l = some (rt N l) := (rt_ex N hN l h hb).1



theorem same_ex (N : Nat) (a : List (Arr 16)) (ha : a.length ≤ 1000000) : ∀ (k i m : Nat), i + k = a.length → k < m → L_ref03_Same_0 N a a m (i : Int) = some true
  | k, i, 0, _, h => by omega
  | 0, i, m + 1, h, _ => by
    rw [L_ref03_Same_0, show decide ((i : Int) < (a.length : Int)) = false by rw [decide_eq_false_iff_not]; omega]; rfl
  | k + 1, i, m + 1, h, hm => by
    rw [L_ref03_Same_0, show decide ((i : Int) < (a.length : Int)) = true by rw [decide_eq_true_eq]; omega, if_true?, get_of (by omega), get_of (by omega), beq_self_eq_true, if_true?, ck_of (by omega) (by omega), cast_succ]
    exact same_ex N a ha k (i + 1) m (by omega) (by omega)
theorem same_eq (N : Nat) (a : List (Arr 16)) (ha : a.length < N) (hb : a.length ≤ 1000000) : F_ref03_Same N a a = some true := by
  unfold F_ref03_Same
  rw [show ((a.length : Int) != (a.length : Int)) = false by simp, if_false?]
  exact same_ex N a hb a.length 0 N (by omega) ha
end Go.Proofs.Tryd
namespace Go.Proofs.Tryd
open Go.Eng

section
variable (N d n : Nat) (a b c r : Arr 16)
theorem x_root2 : F_merkle_Root_r N (d + 2) [a, b] = bd? (F_merkle_Node N a b) fun v6 => some v6 := by kernel_rfl
theorem x_root3 : F_merkle_Root_r N (d + 3) [a, b, c] = bd? (F_merkle_Root_r N (d + 2) [a, b]) fun v4 => bd? (F_merkle_Node N v4 c) fun v6 => some v6 := by kernel_rfl
theorem x_incl0 : F_merkle_Inclusion (n + 100) [a, b, c] 0 = some ([b, c], 0) := by kernel_rfl
theorem x_incl2 : F_merkle_Inclusion (n + 100) [a, b, c] 2 = bd? (bd? (F_merkle_Root_r (n + 100) (n + 98 + 2) [a, b]) fun v5 => some [v5]) fun v1 => some (v1, 0) := by kernel_rfl
theorem x_cons1 : F_merkle_Consistency (n + 100) [a, b, c] 1 = some ([b, c], 0) := by kernel_rfl
theorem x_cons2 : F_merkle_Consistency (n + 100) [a, b, c] 2 = some ([c], 0) := by kernel_rfl
theorem x_many : F_merkle_Many (n + 100) [a, b, c] [0, 2] = some ([b], 0) := by kernel_rfl
theorem x_app0 : F_merkle_Append (n + 100) (Peaks.mk 0 []) a = some (Peaks.mk 1 [a], 0) := by kernel_rfl
theorem x_app1 : F_merkle_Append (n + 100) (Peaks.mk 1 [a]) b = bd? (F_merkle_Node (n + 100) a b) fun v7 => some (Peaks.mk 2 [v7], 0) := by kernel_rfl
theorem x_app2 : F_merkle_Append (n + 100) (Peaks.mk 2 [a]) b = some (Peaks.mk 3 [a, b], 0) := by kernel_rfl
theorem x_ci2 : F_merkle_CheckInclusion_1_r N (d + 2) 0 2 a (Merklepath.mk [b] false) = bd? (F_merkle_Node N a b) fun v4 => some (v4, Merklepath.mk [] false) := by kernel_rfl
theorem x_ci3 : F_merkle_CheckInclusion_1_r N (d + 3) 0 3 a (Merklepath.mk [b, c] false) = bd? (F_merkle_CheckInclusion_1_r N (d + 2) 0 2 a (Merklepath.mk [b] false)) fun v3 => bd? (F_merkle_Node N v3.1 c) fun v4 => some (v4, v3.2) := by kernel_rfl
theorem x_ci : F_merkle_CheckInclusion (n + 100) a 0 3 [b, c] r = bd? (F_merkle_CheckInclusion_1_r (n + 100) (n + 97 + 3) 0 3 a (Merklepath.mk [b, c] false)) fun v1 => bd? (F_merkle_path_settle_put (n + 100) v1.2 (v1.1.l == r.l)) fun v2 => some v2 := by kernel_rfl
theorem x_cj2 : F_merkle_CheckInclusion_1_r N (d + 2) 0 2 a (Merklepath.mk [] false) = bd? (F_merkle_Node N a (Arr.zero 16)) fun v4 => some (v4, Merklepath.mk [] true) := by kernel_rfl
theorem x_cj3 : F_merkle_CheckInclusion_1_r N (d + 3) 0 3 a (Merklepath.mk [c] false) = bd? (F_merkle_CheckInclusion_1_r N (d + 2) 0 2 a (Merklepath.mk [] false)) fun v3 => bd? (F_merkle_Node N v3.1 c) fun v4 => some (v4, v3.2) := by kernel_rfl
theorem x_cj : F_merkle_CheckInclusion (n + 100) a 0 3 [c] r = bd? (F_merkle_CheckInclusion_1_r (n + 100) (n + 97 + 3) 0 3 a (Merklepath.mk [c] false)) fun v1 => bd? (F_merkle_path_settle_put (n + 100) v1.2 (v1.1.l == r.l)) fun v2 => some v2 := by kernel_rfl
theorem x_cc2 : F_merkle_CheckConsistency_1_r N (d + 2) 1 2 true a (Merklepath.mk [b] false) = bd? (F_merkle_Node N a b) fun v5 => some (a, v5, Merklepath.mk [] false) := by kernel_rfl
theorem x_cc3 : F_merkle_CheckConsistency_1_r N (d + 3) 1 3 true a (Merklepath.mk [b, c] false) = bd? (F_merkle_CheckConsistency_1_r N (d + 2) 1 2 true a (Merklepath.mk [b] false)) fun v4 => bd? (F_merkle_Node N v4.2.1 c) fun v5 => some (v4.1, v5, v4.2.2) := by kernel_rfl
theorem x_cc : F_merkle_CheckConsistency (n + 100) 1 3 a r [b, c] = bd? (F_merkle_CheckConsistency_1_r (n + 100) (n + 97 + 3) 1 3 true a (Merklepath.mk [b, c] false)) fun v3 => if? ((v3.1.l == a.l)) (bd? (F_merkle_path_settle_put (n + 100) v3.2.2 (v3.2.1.l == r.l)) fun v4 => some v4) (bd? (F_merkle_path_settle_put (n + 100) v3.2.2 false) fun v5 => some v5) := by kernel_rfl
theorem x_cm2 : F_merkle_CheckMany_1_r (n + 100) (d + 2) 0 2 [0] (Merklepath.mk [b] false) (Merklepath.mk [a, c] false) = bd? (F_merkle_Node (n + 100) a b) fun v7 => some (v7, Merklepath.mk [] false, Merklepath.mk [c] false) := by kernel_rfl
theorem x_cm3 : F_merkle_CheckMany_1_r (n + 100) (d + 3) 0 3 [0, 2] (Merklepath.mk [b] false) (Merklepath.mk [a, c] false) = bd? (F_merkle_CheckMany_1_r (n + 100) (d + 2) 0 2 [0] (Merklepath.mk [b] false) (Merklepath.mk [a, c] false)) fun v5 => bd? (F_merkle_CheckMany_1_r (n + 100) (d + 2) 2 1 [2] v5.2.1 v5.2.2) fun v6 => bd? (F_merkle_Node (n + 100) v5.1 v6.1) fun v7 => some (v7, v6.2.1, v6.2.2) := by kernel_rfl
theorem x_cm1 : F_merkle_CheckMany_1_r (n + 100) (d + 2) 2 1 [2] (Merklepath.mk [] false) (Merklepath.mk [c] false) = some (c, Merklepath.mk [] false, Merklepath.mk [] false) := by kernel_rfl
theorem x_cm : F_merkle_CheckMany (n + 100) 3 [0, 2] [a, c] [b] r = bd? (F_merkle_CheckMany_1_r (n + 100) (n + 97 + 3) 0 3 [0, 2] (Merklepath.mk [b] false) (Merklepath.mk [a, c] false)) fun v4 => bd? (F_merkle_path_settle_put (n + 100) v4.2.1 (v4.1.l == r.l)) fun v5 => some v5 := by kernel_rfl
end

theorem settle_t (N : Nat) : F_merkle_path_settle_put N (Merklepath.mk [] false) true = some true := rfl
theorem settle_f (N : Nat) (q : Bool) : F_merkle_path_settle_put N (Merklepath.mk [] true) q = some false := by cases q <;> rfl

/-- The examples hold. -/
theorem sanity_eq (N : Nat) (hN : 100 ≤ N) : F_law03_sanity N = some true := by
  obtain ⟨n, rfl⟩ : ∃ n, N = n + 100 := ⟨N - 100, by omega⟩
  unfold F_law03_sanity
  rw [lf_1 _ hN _ (by simp), lf_1 _ hN _ (by simp), lf_1 _ hN _ (by simp), bd_some, bd_some, bd_some]
  have ha := lf_2 (n + 100) hN ([97] : Str) (by simp)
  generalize lf (n + 100) ([97] : Str) = a at *
  generalize lf (n + 100) ([98] : Str) = b
  generalize lf (n + 100) ([99] : Str) = c
  have hab := node_1 (n + 100) hN a b
  have hab2 := node_2 (n + 100) hN a b
  generalize nd (n + 100) a b = ab at *
  have hr := node_1 (n + 100) hN ab c
  generalize nd (n + 100) ab c = r at *
  rw [hab, bd_some, hr, bd_some, x_incl0, bd_some, x_incl2, x_root2, hab, bd_some, bd_some, bd_some, bd_some, x_cons1, bd_some, x_cons2, bd_some, x_many, bd_some]
  have n1 : (0 : Int) + 1 = 1 := rfl
  have n2 : (1 : Int) + 1 = 2 := rfl
  have n3 : (2 : Int) + 1 = 3 := rfl
  have d0 : decide ((0 : Int) < 3) = true := rfl
  have d1 : decide ((1 : Int) < 3) = true := rfl
  have d2 : decide ((2 : Int) < 3) = true := rfl
  have d3 : decide ((3 : Int) < 3) = false := rfl
  have z0 : ((0 : Int) != 0) = false := rfl
  rw [show n + 100 = n + 96 + 1 + 1 + 1 + 1 from rfl, L_law03_sanity_0, ← show n + 100 = n + 96 + 1 + 1 + 1 + 1 from rfl, d0, if_true?, get_0, x_app0, bd_some, z0, if_false?, ck_of (by omega) (by omega), n1]
  rw [L_law03_sanity_0, d1, if_true?, get_1, x_app1, hab, bd_some, bd_some, z0, if_false?, ck_of (by omega) (by omega), n2]
  rw [L_law03_sanity_0, d2, if_true?, get_2, x_app2, bd_some, z0, if_false?, ck_of (by omega) (by omega), n3]
  rw [L_law03_sanity_0, d3, if_false?]
  have e1 : F_merkle_Root (n + 100) [a, b, c] = some r := by
    show F_merkle_Root_r (n + 100) (n + 97 + 3) [a, b, c] = _
    rw [x_root3, x_root2, hab, bd_some, bd_some, hr]; rfl
  have e2 : F_merkle_CheckInclusion (n + 100) a 0 3 [b, c] r = some true := by
    rw [x_ci, x_ci3, x_ci2, hab, bd_some, bd_some, hr, bd_some, bd_some, beq_self_eq_true, settle_t]; rfl
  have e3 : F_merkle_CheckConsistency (n + 100) 1 3 a r [b, c] = some true := by
    rw [x_cc, x_cc3, x_cc2, hab, bd_some, bd_some, hr, bd_some, bd_some, beq_self_eq_true, if_true?, beq_self_eq_true, settle_t]; rfl
  have e4 : F_merkle_CheckMany (n + 100) 3 [0, 2] [a, c] [b] r = some true := by
    rw [x_cm, x_cm3, x_cm2, hab, bd_some, bd_some, x_cm1, bd_some, hr, bd_some, bd_some, beq_self_eq_true, settle_t]; rfl
  have e5 : F_merkle_CheckInclusion (n + 100) a 0 3 [ab] r = some false := by
    rw [x_cj, x_cj3, x_cj2, node_1 _ hN, bd_some, bd_some, node_1 _ hN, bd_some, bd_some, settle_f]; rfl
  have s := fun l (hl : l.length ≤ 10) => same_eq (n + 100) l (by omega) (by omega)
  simp only [e1, e2, e3, e4, e5, ha, hab2, bd_some, beq_self_eq_true, s [b, c] (by simp), s [ab] (by simp), s [c] (by simp), s [b] (by simp), s [ab, c] (by simp)]
  rfl
end Go.Proofs.Tryd
namespace Go.Proofs.Tryd
open Go.Eng

end Go.Proofs.Tryd
namespace Go.Proofs.Tryd
open Go.Eng

def ascB (n : Int) : Int → List Int → Bool
  | _, [] => true
  | a, x :: xs => if x ≤ a then false else if x ≥ n then false else ascB n x xs
theorem asc_1 (N : Nat) (p : List Int) (n : Int) (hp : p.length ≤ 1000000) : ∀ (k i m : Nat) (a : Int), i + k = p.length → k < m → L_merkle_isAscending_0 N p n m a (i : Int) = some (ascB n a (p.drop i))
  | k, i, 0, a, _, h => by omega
  | 0, i, m + 1, a, h, _ => by
    rw [L_merkle_isAscending_0, show decide ((i : Int) < (p.length : Int)) = false by rw [decide_eq_false_iff_not]; omega, List.drop_eq_nil_of_le (by omega)]; rfl
  | k + 1, i, m + 1, a, h, hm => by
    rw [L_merkle_isAscending_0, show decide ((i : Int) < (p.length : Int)) = true by rw [decide_eq_true_eq]; omega, if_true?, get_of (by omega), drop_cons (i := i) (by omega), ascB]
    by_cases h1 : p[i] ≤ a
    · rw [if_pos h1, show decide (p[i] ≤ a) = true by simpa using h1]; rfl
    · rw [if_neg h1, show decide (p[i] ≤ a) = false by simpa using h1, if_false?]
      by_cases h2 : p[i] ≥ n
      · rw [if_pos h2, show decide (p[i] ≥ n) = true by simpa using h2]; rfl
      · rw [if_neg h2, show decide (p[i] ≥ n) = false by simpa using h2, if_false?, ck_of (by omega) (by omega), cast_succ]
        exact asc_1 N p n hp k (i + 1) m _ (by omega) (by omega)
theorem ascend_1 (N : Nat) (p : List Int) (n : Int) (h : p.length < N) (hp : p.length ≤ 1000000) : F_merkle_isAscending N p n = some (ascB n (-1) p) := asc_1 N p n hp p.length 0 N (-1) (by omega) h

def cutAt (t : Int) (p : List Int) : Nat := (p.filter (fun x => decide (x < t))).length
theorem cut_le (t : Int) (p : List Int) : cutAt t p ≤ p.length := List.length_filter_le ..
theorem cut_take : ∀ {t : Int} {p : List Int}, p.Pairwise (· < ·) → p.take (cutAt t p) = p.filter (fun x => decide (x < t)) ∧ p.drop (cutAt t p) = p.filter (fun x => decide (t ≤ x))
  | t, [], _ => ⟨rfl, rfl⟩
  | t, x :: xs, h => by
    have h1 := List.pairwise_cons.1 h
    by_cases hx : x < t
    · obtain ⟨a, b⟩ := cut_take (t := t) h1.2
      have e : cutAt t (x :: xs) = cutAt t xs + 1 := by unfold cutAt; rw [List.filter_cons_of_pos (by simpa using hx), List.length_cons]
      rw [e, List.take_succ_cons, List.drop_succ_cons, a, b, List.filter_cons_of_pos (by simpa using hx), List.filter_cons_of_neg (by simp; omega)]
      exact ⟨rfl, rfl⟩
    · have e1 : (x :: xs).filter (fun x => decide (x < t)) = [] := by
        rw [List.filter_eq_nil_iff]
        intro y hy
        rcases List.mem_cons.1 hy with rfl | hy
        · simpa using hx
        · have := h1.1 y hy; simp; omega
      have e2 : (x :: xs).filter (fun x => decide (t ≤ x)) = x :: xs := by
        rw [List.filter_eq_self]
        intro y hy
        rcases List.mem_cons.1 hy with rfl | hy
        · simp; omega
        · have := h1.1 y hy; simp; omega
      have e : cutAt t (x :: xs) = 0 := by unfold cutAt; rw [e1]; rfl
      rw [e, e1, e2]; exact ⟨rfl, rfl⟩
theorem cut_lt {t : Int} {p : List Int} (h : p.Pairwise (· < ·)) {i : Nat} (hi : i < p.length) : p[i] < t ↔ i < cutAt t p := by
  obtain ⟨a, b⟩ := cut_take (t := t) h
  constructor
  · intro hx
    apply Classical.byContradiction
    intro hc
    have h1 : p[i] ∈ p.drop (cutAt t p) := by
      rw [List.mem_iff_getElem]
      exact ⟨i - cutAt t p, by rw [List.length_drop]; omega, by rw [List.getElem_drop]; congr 1; omega⟩
    rw [b, List.mem_filter] at h1
    have := h1.2
    simp at this; omega
  · intro hx
    have h1 : p[i] ∈ p.take (cutAt t p) := by
      rw [List.mem_iff_getElem]
      exact ⟨i, by rw [List.length_take]; omega, by rw [List.getElem_take]⟩
    rw [a, List.mem_filter] at h1
    simpa using h1.2
theorem half_eq (a b : Nat) (h : a + b ≤ 1000000) : (IntKind.wrap .u64 ((a : Int) + (b : Int))) / 2 ^ (1 : Int).toNat = (((a + b) / 2 : Nat) : Int) := by
  rw [show (a : Int) + (b : Int) = ((a + b : Nat) : Int) by omega, w64 (by omega) (by omega), show (2 : Int) ^ (1 : Int).toNat = 2 from rfl]
  omega
theorem less_eq (N : Nat) (x y : Int) : F_cmp_Less_int N x y = some (decide (x < y)) := by
  unfold F_cmp_Less_int F_cmp_isNaN_int
  rw [bd_some, show (x != x) = false by simp, if_false?]
theorem bin_ex (N : Nat) (p : List Int) (t : Int) (hp : p.length ≤ 100000) (hs : p.Pairwise (· < ·)) : ∀ (k m a b : Nat), b - a ≤ k → k < m → a ≤ cutAt t p → cutAt t p ≤ b → b ≤ p.length → ∃ f, L_slices_BinarySearch_int_int_0 N p t m (a : Int) (b : Int) = some ((cutAt t p : Int), f)
  | k, 0, a, b, _, h, _, _, _ => by omega
  | k, m + 1, a, b, hk, hm, h1, h2, h3 => by
    rw [L_slices_BinarySearch_int_int_0]
    by_cases h : a < b
    · obtain ⟨k', rfl⟩ : ∃ k', k = k' + 1 := ⟨k - 1, by omega⟩
      have hh : (a + b) / 2 < p.length := by omega
      rw [show decide ((a : Int) < (b : Int)) = true by rw [decide_eq_true_eq]; omega, if_true?, ck_of (by omega) (by omega), half_eq a b (by omega), ck_of (by omega) (by omega), get_of hh, less_eq, bd_some]
      have hc := cut_lt (t := t) hs hh
      by_cases hl : p[(a + b) / 2] < t
      · have := hc.1 hl
        rw [show decide (p[(a + b) / 2] < t) = true by simpa using hl, if_true?, ck_of (by omega) (by omega), cast_succ]
        exact bin_ex N p t hp hs k' m _ b (by omega) (by omega) (by omega) h2 h3
      · have : ¬ (a + b) / 2 < cutAt t p := fun x => hl (hc.2 x)
        rw [show decide (p[(a + b) / 2] < t) = false by simpa using hl, if_false?]
        exact bin_ex N p t hp hs k' m a _ (by omega) (by omega) h1 (by omega) (by omega)
    · obtain rfl : a = cutAt t p := by omega
      rw [show decide (((cutAt t p : Nat) : Int) < (b : Int)) = false by rw [decide_eq_false_iff_not]; omega, if_false?]
      by_cases h5 : cutAt t p < p.length
      · rw [show decide (((cutAt t p : Nat) : Int) < (p.length : Int)) = true by rw [decide_eq_true_eq]; omega, if_true?, get_of h5]
        by_cases h6 : p[cutAt t p] = t
        · rw [show (p[cutAt t p] == t) = true by simpa using h6]; exact ⟨_, rfl⟩
        · rw [show (p[cutAt t p] == t) = false by simpa using h6, if_false?]
          unfold F_slices_isNaN_int
          rw [bd_some, show (p[cutAt t p] != p[cutAt t p]) = false by simp]; exact ⟨_, rfl⟩
      · rw [show decide (((cutAt t p : Nat) : Int) < (p.length : Int)) = false by rw [decide_eq_false_iff_not]; omega]; exact ⟨_, rfl⟩
theorem cut_eq (N : Nat) (p : List Int) (t : Int) (hN : p.length < N) (hp : p.length ≤ 100000) (hs : p.Pairwise (· < ·)) : F_merkle_cut N p t = some (p.filter (fun x => decide (x < t)), p.filter (fun x => decide (t ≤ x))) := by
  obtain ⟨f, h⟩ := bin_ex N p t hp hs p.length N 0 p.length (by omega) hN (by omega) (cut_le t p) (by omega)
  have hc := cut_le t p
  obtain ⟨a, b⟩ := cut_take (t := t) hs
  have h : F_slices_BinarySearch_int_int N p t = some ((cutAt t p : Int), f) := h
  unfold F_merkle_cut
  rw [h, bd_some, gd_of (by omega), Int.toNat_natCast, gd_of hc, Nat.sub_zero, same_len, a, b]

end Go.Proofs.Tryd
namespace Go.Proofs.Tryd
open Go.Eng


theorem first_cons (N : Nat) (x : Arr 16) (l : List (Arr 16)) (s : Bool) (h : l.length ≤ 1000000) : F_merkle_path_first N (Merklepath.mk (x :: l) s) = some (x, Merklepath.mk l s) := by
  unfold F_merkle_path_first
  rw [show ((((Merklepath.mk (x :: l) s).l.length : Nat) : Int) == 0) = false by simp; omega, if_false?]
  show get? (x :: l) 0 _ = _
  rw [show (0 : Int) = ((0 : Nat) : Int) from rfl, get_of (by simp), gd_of (by show 1 ≤ (x :: l).length; simp)]
  show some (x, Merklepath.mk (List.take ((x :: l).length - 1) l) s) = _
  rw [List.take_of_length_le (by simp)]

end Go.Proofs.Tryd
namespace Go.Proofs.Tryd
open Go.Eng

theorem rt_any (N : Nat) (hN : 100 ≤ N) (d : Nat) (l : List (Arr 16)) (h : l.length < d) (h2 : l.length < N) (hb : l.length ≤ 1000000) : F_merkle_Root_r N d l = some (rt N l) := by
  obtain ⟨r, r1, r2⟩ := root_ex N hN l.length d N l (Nat.le_refl _) h h2 hb
  have r3 : F_ref03_Root N l = some r := r2
  rw [(rt_ex N hN l h2 hb).2] at r3
  rw [r1, Option.some.inj r3]
theorem rt_one (N : Nat) (hN : 100 ≤ N) (x : Arr 16) : rt N [x] = x := by
  have h := rt_any N hN 2 [x] (by simp) (by simp; omega) (by simp)
  exact (Option.some.inj h).symm
theorem rt_step (N : Nat) (hN : 100 ≤ N) (l : List (Arr 16)) (h : 2 ≤ l.length) (h2 : l.length < N) (hb : l.length ≤ 1000000) : rt N l = nd N (rt N (l.take (sp l.length))) (rt N (l.drop (sp l.length))) := by
  have hs := sp_lt l.length (by omega) (by omega)
  have e := rt_any N hN (l.length + 1) l (by omega) h2 hb
  rw [F_merkle_Root_r, show ((l.length : Int) == 0) = false by (have : (l.length : Int) ≠ 0 := by omega); exact beq_false_of_ne this, if_false?, show ((l.length : Int) == 1) = false by simp; omega, if_false?, split_1 N l.length (by omega) (by omega), bd_some, gd_of (by omega), gd_of (by omega), Int.toNat_natCast, Nat.sub_zero, rt_any N hN _ (l.take (sp l.length)) (by rw [List.length_take]; omega) (by rw [List.length_take]; omega) (by rw [List.length_take]; omega), bd_some, gd_of (by omega), gd_of (by omega), gd_of (by omega), Int.toNat_natCast, same_len, rt_any N hN _ (l.drop (sp l.length)) (by rw [List.length_drop]; omega) (by rw [List.length_drop]; omega) (by rw [List.length_drop]; omega), bd_some, node_1 N hN, bd_some] at e
  exact (Option.some.inj e).symm
theorem last_app (N : Nat) (u : List (Arr 16)) (x : Arr 16) (s : Bool) (h : u.length ≤ 1000000) : F_merkle_path_last N (Merklepath.mk (u ++ [x]) s) = some (x, Merklepath.mk u s) := by
  have e : (u ++ [x]).length = u.length + 1 := by simp
  unfold F_merkle_path_last
  simp only [e]
  rw [show (((u.length + 1 : Nat) : Int) == 0) = false by simp; omega, if_false?, ck_of (by omega) (by omega), show ((u.length + 1 : Nat) : Int) - 1 = (u.length : Int) by omega, get_of (by omega), gd_of (by omega), Int.toNat_natCast, gd_of (by omega), Nat.sub_zero, List.take_left, List.getElem_append_right (Nat.le_refl _)]
  simp
theorem sp_is (m j : Nat) (h1 : 2 ^ j < m) (h2 : m ≤ 2 * 2 ^ j) (hb : m ≤ 2199023255552) : sp m = 2 ^ j := by
  have := sp_lt m (by have := Nat.two_pow_pos j; omega) hb
  unfold sp at *
  rw [pow_uniq (a := Lib.bitLen (m - 1) - 1) (b := j) (n := m) (by omega) (by omega) h1 h2]

theorem incl_ok (N : Nat) (hN : 100 ≤ N) : ∀ (k d d' : Nat) (l : List (Arr 16)) (i : Nat) (q u : List (Arr 16)) (s : Bool) (x : Arr 16), l[i]? = some x → i < l.length → l.length ≤ k → k < d → k < d' → l.length ≤ 1000 → l.length < N → q.length + k ≤ 10000 → u.length + k ≤ 10000 →
    ∃ v, F_merkle_Inclusion_1_r N d l (i : Int) q = some (q ++ v) ∧ F_merkle_CheckInclusion_1_r N d' (i : Int) (l.length : Int) x (Merklepath.mk (u ++ v) s) = some (rt N l, Merklepath.mk u s) ∧ v.length ≤ k
  | k, 0, d', l, i, q, u, s, x, _, hi, _, h, _, _, _, _, _ => by omega
  | k, d + 1, 0, l, i, q, u, s, x, _, hi, _, _, h, _, _, _, _ => by omega
  | k, d + 1, d' + 1, l, i, q, u, s, x, hx, hi, hl, hd, hd', hb, hn, hq, hu => by
    by_cases h1 : l.length = 1
    · match l, h1, hi with
      | [y], _, hi =>
        obtain rfl : i = 0 := by simp at hi; omega
        obtain rfl : y = x := Option.some.inj hx
        exact ⟨[], by rw [List.append_nil]; rfl, by rw [List.append_nil, rt_one N hN]; rfl, Nat.zero_le _⟩
    · have hs := sp_lt l.length (by omega) (by omega)
      have hst := rt_step N hN l (by omega) hn (by omega)
      obtain ⟨k', rfl⟩ : ∃ k', k = k' + 1 := ⟨k - 1, by omega⟩
      have e1 : (l.take (sp l.length)).length = sp l.length := by rw [List.length_take]; omega
      have e2 : (l.drop (sp l.length)).length = l.length - sp l.length := List.length_drop
      have b1 : ((l.length : Int) == 1) = false := by simp; omega
      have b2 := split_1 N l.length (by omega) (by omega)
      by_cases hc : i < sp l.length
      · have b3 : decide ((i : Int) < ((sp l.length : Nat) : Int)) = true := by rw [decide_eq_true_eq]; omega
        obtain ⟨v, v1, v2, v3⟩ := incl_ok N hN k' d d' (l.take (sp l.length)) i q u s x (by rw [List.getElem?_take_of_lt hc]; exact hx) (by omega) (by omega) (by omega) (by omega) (by omega) (by omega) (by omega) (by omega)
        rw [e1] at v2
        have hr := rt_any N hN N (l.drop (sp l.length)) (by omega) (by omega) (by omega)
        have hr : F_merkle_Root N (l.drop (sp l.length)) = _ := hr
        refine ⟨v ++ [rt N (l.drop (sp l.length))], ?_, ?_, by simp; omega⟩
        · rw [F_merkle_Inclusion_1_r, b1, if_false?, b2, bd_some, b3, if_true?, gd_of (by omega), gd_of (by omega), Int.toNat_natCast, Nat.sub_zero, v1, bd_some, same_len, hr, bd_some, gd_of (by simp; omega), List.append_assoc]
        · rw [F_merkle_CheckInclusion_1_r, b1, if_false?, b2, bd_some, ← List.append_assoc, last_app N _ _ _ (by simp; omega), bd_some, b3, if_true?, v2, bd_some, node_1 N hN, bd_some, hst]
      · have b3 : decide ((i : Int) < ((sp l.length : Nat) : Int)) = false := by rw [decide_eq_false_iff_not]; omega
        obtain ⟨v, v1, v2, v3⟩ := incl_ok N hN k' d d' (l.drop (sp l.length)) (i - sp l.length) q u s x (by rw [List.getElem?_drop, show sp l.length + (i - sp l.length) = i by omega]; exact hx) (by omega) (by omega) (by omega) (by omega) (by omega) (by omega) (by omega) (by omega)
        rw [e2] at v2
        have hr := rt_any N hN N (l.take (sp l.length)) (by omega) (by omega) (by omega)
        have hr : F_merkle_Root N (l.take (sp l.length)) = _ := hr
        refine ⟨v ++ [rt N (l.take (sp l.length))], ?_, ?_, by simp; omega⟩
        · rw [F_merkle_Inclusion_1_r, b1, if_false?, b2, bd_some, b3, if_false?, gd_of (by omega), gd_of (by omega), ck_of (by omega) (by omega), Int.toNat_natCast, Nat.sub_zero, same_len, show (i : Int) - ((sp l.length : Nat) : Int) = ((i - sp l.length : Nat) : Int) by omega, v1, bd_some, hr, bd_some, gd_of (by simp; omega), List.append_assoc]
        · rw [F_merkle_CheckInclusion_1_r, b1, if_false?, b2, bd_some, ← List.append_assoc, last_app N _ _ _ (by simp; omega), bd_some, b3, if_false?, ck_of (by omega) (by omega), ck_of (by omega) (by omega), show (i : Int) - ((sp l.length : Nat) : Int) = ((i - sp l.length : Nat) : Int) by omega, show (l.length : Int) - ((sp l.length : Nat) : Int) = ((l.length - sp l.length : Nat) : Int) by omega]
          rw [v2, bd_some, node_1 N hN, bd_some, hst]

theorem cons_ok (N : Nat) (hN : 100 ≤ N) : ∀ (k d d' : Nat) (l : List (Arr 16)) (i : Nat) (b : Bool) (o : Arr 16) (q u : List (Arr 16)) (s : Bool), l.length ≤ k → k < d → k < d' → 1 ≤ i → i ≤ l.length → l.length ≤ 1000 → l.length < N → q.length + k ≤ 10000 → u.length + k ≤ 10000 → (b = true → o = rt N (l.take i) ∨ (i < l.length ∧ ∀ j, i ≠ 2 ^ j)) →
    ∃ v, F_merkle_Consistency_1_r N d l (i : Int) b q = some (q ++ v) ∧ F_merkle_CheckConsistency_1_r N d' (i : Int) (l.length : Int) b o (Merklepath.mk (u ++ v) s) = some (rt N (l.take i), rt N l, Merklepath.mk u s) ∧ v.length ≤ k
  | k, 0, d', l, i, b, o, q, u, s, _, h, _, _, _, _, _, _, _, _ => by omega
  | k, d + 1, 0, l, i, b, o, q, u, s, _, _, h, _, _, _, _, _, _, _ => by omega
  | k, d + 1, d' + 1, l, i, b, o, q, u, s, hl, hd, hd', hi0, hi, hb, hn, hq, hu, ho => by
    by_cases h1 : i = l.length
    · have b1 : ((i : Int) == (l.length : Int)) = true := by rw [h1]; simp
      have b2 : l.take i = l := by rw [h1, List.take_length]
      cases b
      · have hr := rt_ex N hN l hn (by omega)
        refine ⟨[rt N l], ?_, ?_, by simp only [List.length_cons, List.length_nil]; omega⟩
        · rw [F_merkle_Consistency_1_r, b1, if_true?, if_false?, hr.1, bd_some, gd_of (by simp only [List.length_cons, List.length_nil]; omega)]
        · rw [F_merkle_CheckConsistency_1_r, b1, if_true?, if_false?, last_app N _ _ _ (by omega), bd_some, b2]
      · rcases ho rfl with ho | ho
        · rw [b2] at ho
          refine ⟨[], ?_, ?_, Nat.zero_le _⟩
          · rw [F_merkle_Consistency_1_r, b1, if_true?, if_true?, List.append_nil]
          · rw [F_merkle_CheckConsistency_1_r, b1, if_true?, if_true?, List.append_nil, b2, ho]
        · omega
    · have hs := sp_lt l.length (by omega) (by omega)
      have hst := rt_step N hN l (by omega) hn (by omega)
      obtain ⟨k', rfl⟩ : ∃ k', k = k' + 1 := ⟨k - 1, by omega⟩
      have e1 : (l.take (sp l.length)).length = sp l.length := by rw [List.length_take]; omega
      have e2 : (l.drop (sp l.length)).length = l.length - sp l.length := List.length_drop
      have hd2 := rt_any N hN N (l.drop (sp l.length)) (by omega) (by omega) (by omega)
      have hd2 : F_merkle_Root N (l.drop (sp l.length)) = _ := hd2
      have ht2 := rt_any N hN N (l.take (sp l.length)) (by omega) (by omega) (by omega)
      have ht2 : F_merkle_Root N (l.take (sp l.length)) = _ := ht2
      have b1 : ((i : Int) == (l.length : Int)) = false := by simp; omega
      have b2 := split_1 N l.length (by omega) (by omega)
      by_cases hc : i ≤ sp l.length
      · have et : (l.take (sp l.length)).take i = l.take i := by rw [List.take_take, Nat.min_eq_left hc]
        obtain ⟨v, v1, v2, v3⟩ := cons_ok N hN k' d d' (l.take (sp l.length)) i b o q u s (by omega) (by omega) (by omega) hi0 (by omega) (by omega) (by omega) (by omega) (by omega) (fun hm => by
          rcases ho hm with ho | ⟨ho, hj⟩
          · left; rw [et]; exact ho
          · right; exact ⟨by rw [e1]; have := hj (Lib.bitLen (l.length - 1) - 1); unfold sp at hc ⊢; omega, hj⟩)
        rw [e1, et] at v2
        have b3 : decide ((i : Int) ≤ ((sp l.length : Nat) : Int)) = true := by rw [decide_eq_true_eq]; omega
        refine ⟨v ++ [rt N (l.drop (sp l.length))], ?_, ?_, by simp; omega⟩
        · rw [F_merkle_Consistency_1_r, b1, if_false?, b2, bd_some, b3, if_true?, gd_of (by omega), gd_of (by omega), Int.toNat_natCast, Nat.sub_zero, v1, bd_some, same_len, hd2, bd_some, gd_of (by simp; omega), List.append_assoc]
        · rw [F_merkle_CheckConsistency_1_r, b1, if_false?, b2, bd_some, ← List.append_assoc, last_app N _ _ _ (by simp; omega), bd_some, b3, if_true?, v2, bd_some, node_1 N hN, bd_some, hst]
      · obtain ⟨v, v1, v2, v3⟩ := cons_ok N hN k' d d' (l.drop (sp l.length)) (i - sp l.length) false o q u s (by omega) (by omega) (by omega) (by omega) (by omega) (by omega) (by omega) (by omega) (by omega) (fun h => by cases h)
        rw [e2] at v2
        have hsm : sp (l.take i).length = sp l.length := by
          rw [List.length_take, Nat.min_eq_left hi]
          exact sp_is i _ (by show sp l.length < i; omega) (by show i ≤ 2 * sp l.length; omega) (by omega)
        have hst2 := rt_step N hN (l.take i) (by rw [List.length_take]; omega) (by rw [List.length_take]; omega) (by rw [List.length_take]; omega)
        rw [hsm, List.take_take, Nat.min_eq_left (by omega), List.drop_take] at hst2
        have b3 : decide ((i : Int) ≤ ((sp l.length : Nat) : Int)) = false := by rw [decide_eq_false_iff_not]; omega
        refine ⟨v ++ [rt N (l.take (sp l.length))], ?_, ?_, by simp; omega⟩
        · rw [F_merkle_Consistency_1_r, b1, if_false?, b2, bd_some, b3, if_false?, gd_of (by omega), gd_of (by omega), ck_of (by omega) (by omega), Int.toNat_natCast, Nat.sub_zero, same_len, show (i : Int) - ((sp l.length : Nat) : Int) = ((i - sp l.length : Nat) : Int) by omega, v1, bd_some, ht2, bd_some, gd_of (by simp; omega), List.append_assoc]
        · rw [F_merkle_CheckConsistency_1_r, b1, if_false?, b2, bd_some, ← List.append_assoc, last_app N _ _ _ (by simp; omega), bd_some, b3, if_false?, ck_of (by omega) (by omega), ck_of (by omega) (by omega), show (i : Int) - ((sp l.length : Nat) : Int) = ((i - sp l.length : Nat) : Int) by omega, show (l.length : Int) - ((sp l.length : Nat) : Int) = ((l.length - sp l.length : Nat) : Int) by omega, v2, bd_some, node_1 N hN, bd_some, node_1 N hN, bd_some, hst, hst2]

def pick (l : List (Arr 16)) (f : Int) (p : List Int) : List (Arr 16) := p.map fun x => l.getD (x - f).toNat default
theorem pick_len (l : List (Arr 16)) (f : Int) (p : List Int) : (pick l f p).length = p.length := List.length_map ..
theorem many_ok (N : Nat) (hN : 100 ≤ N) : ∀ (k d d' : Nat) (l : List (Arr 16)) (f : Int) (p : List Int), l.length ≤ k → k < d → k < d' → 1 ≤ l.length → l.length ≤ 1000 → l.length < N → p.Pairwise (· < ·) → (∀ x ∈ p, f ≤ x ∧ x < f + (l.length : Int)) → p.length ≤ 1000 → p.length < N → 0 ≤ f → f ≤ 1000000 - (l.length : Int) →
    ∃ v, v.length ≤ l.length ∧ (∀ q : List (Arr 16), q.length + l.length ≤ 10000 → F_merkle_Many_1_r N d l f p q = some (q ++ v)) ∧ (∀ (u g : List (Arr 16)) (s t : Bool), u.length + l.length ≤ 10000 → g.length + p.length ≤ 10000 → F_merkle_CheckMany_1_r N d' f (l.length : Int) p (Merklepath.mk (v ++ u) s) (Merklepath.mk (pick l f p ++ g) t) = some (rt N l, Merklepath.mk u s, Merklepath.mk g t))
  | k, 0, d', l, f, p, _, h, _, _, _, _, _, _, _, _, _, _ => by omega
  | k, d + 1, 0, l, f, p, _, _, h, _, _, _, _, _, _, _, _, _ => by omega
  | k, d + 1, d' + 1, l, f, p, hl, hd, hd', h1, hb, hn, hs, hp, hpb, hpn, hf, hf' => by
    by_cases h0 : p.length = 0
    · have hr := rt_ex N hN l hn (by omega)
      obtain rfl : p = [] := List.eq_nil_of_length_eq_zero h0
      refine ⟨[rt N l], by simp only [List.length_cons, List.length_nil]; omega, fun q hq => ?_, fun u g s t hu hg => ?_⟩
      · rw [F_merkle_Many_1_r, show ((([] : List Int).length : Int) == 0) = true from rfl, if_true?, hr.1, bd_some, gd_of (by simp only [List.length_cons, List.length_nil]; omega)]
      · rw [F_merkle_CheckMany_1_r, show ((([] : List Int).length : Int) == 0) = true from rfl, if_true?, List.cons_append, List.nil_append, first_cons N _ _ _ (by omega), bd_some]; rfl
    · have e0 : ((p.length : Int) == 0) = false := by simp; exact fun h => h0 (by rw [h]; rfl)
      by_cases h2 : l.length = 1
      · refine ⟨[], Nat.zero_le _, fun q hq => ?_, fun u g s t hu hg => ?_⟩
        · rw [F_merkle_Many_1_r, e0, if_false?, show decide ((l.length : Int) > 1) = false by rw [h2]; rfl, if_false?, List.append_nil]
        · rw [F_merkle_CheckMany_1_r, e0, if_false?, show ((l.length : Int) == 1) = true by rw [h2]; rfl, if_true?]
          match l, h2, p, h0, hs, hp with
          | [y], _, [x], _, _, hp =>
            have := hp x (by simp)
            simp only [List.length_cons, List.length_nil] at this
            have e : pick [y] f [x] = [y] := by
              unfold pick
              rw [List.map_cons, List.map_nil, show (x - f).toNat = 0 by omega]; rfl
            simp only [List.length_cons, List.length_nil] at hg
            rw [e, List.cons_append, List.nil_append, List.nil_append, first_cons N _ _ _ (by omega), bd_some, rt_one N hN]
          | [y], _, x :: z :: p, _, hs, hp =>
            have a := hp x (by simp)
            have b := hp z (by simp)
            have c := (List.pairwise_cons.1 hs).1 z (by simp)
            simp only [List.length_cons, List.length_nil] at a b
            omega
          | [y], _, [], h0, _, _ => exact absurd rfl h0
      · have hsp := sp_lt l.length (by omega) (by omega)
        obtain ⟨k', rfl⟩ : ∃ k', k = k' + 1 := ⟨k - 1, by omega⟩
        have hst := rt_step N hN l (by omega) hn (by omega)
        have e1 : (l.take (sp l.length)).length = sp l.length := by rw [List.length_take]; omega
        have e2 : (l.drop (sp l.length)).length = l.length - sp l.length := List.length_drop
        have hcut := cut_eq N p (f + ((sp l.length : Nat) : Int)) hpn (by omega) hs
        obtain ⟨c1, c2⟩ := cut_take (t := f + ((sp l.length : Nat) : Int)) hs
        have hA : ∀ x ∈ p.filter (fun x => decide (x < f + ((sp l.length : Nat) : Int))), f ≤ x ∧ x < f + ((sp l.length : Nat) : Int) := fun x hx => by
          have h := List.mem_filter.1 hx
          have := hp x h.1
          have := of_decide_eq_true h.2
          omega
        have hB : ∀ x ∈ p.filter (fun x => decide (f + ((sp l.length : Nat) : Int) ≤ x)), f + ((sp l.length : Nat) : Int) ≤ x ∧ x < f + (l.length : Int) := fun x hx => by
          have h := List.mem_filter.1 hx
          have := hp x h.1
          have := of_decide_eq_true h.2
          omega
        have sA : (p.filter (fun x => decide (x < f + ((sp l.length : Nat) : Int)))).Pairwise (· < ·) := List.Pairwise.filter _ hs
        have sB : (p.filter (fun x => decide (f + ((sp l.length : Nat) : Int) ≤ x))).Pairwise (· < ·) := List.Pairwise.filter _ hs
        have hAB : p = p.filter (fun x => decide (x < f + ((sp l.length : Nat) : Int))) ++ p.filter (fun x => decide (f + ((sp l.length : Nat) : Int) ≤ x)) := by
          rw [← c1, ← c2, List.take_append_drop]
        generalize p.filter (fun x => decide (x < f + ((sp l.length : Nat) : Int))) = A at *
        generalize p.filter (fun x => decide (f + ((sp l.length : Nat) : Int) ≤ x)) = B at *
        have hlen : p.length = A.length + B.length := by rw [hAB, List.length_append]
        have ep : pick l f p = pick (l.take (sp l.length)) f A ++ pick (l.drop (sp l.length)) (f + ((sp l.length : Nat) : Int)) B := by
          rw [hAB]
          unfold pick
          rw [List.map_append]
          congr 1
          · refine List.map_congr_left fun x hx => ?_
            have := hA x hx
            rw [List.getD_eq_getElem?_getD, List.getD_eq_getElem?_getD, List.getElem?_take_of_lt (by omega)]
          · refine List.map_congr_left fun x hx => ?_
            have := hB x hx
            rw [List.getD_eq_getElem?_getD, List.getD_eq_getElem?_getD, List.getElem?_drop]
            congr 2; omega
        have lp := pick_len (l.drop (sp l.length)) (f + ((sp l.length : Nat) : Int)) B
        obtain ⟨x, x0, x1, x2⟩ := many_ok N hN k' d d' (l.take (sp l.length)) f A (by omega) (by omega) (by omega) (by omega) (by omega) (by omega) sA (fun x hx => by have := hA x hx; rw [e1]; omega) (by omega) (by omega) hf (by omega)
        obtain ⟨y, y0, y1, y2⟩ := many_ok N hN k' d d' (l.drop (sp l.length)) (f + ((sp l.length : Nat) : Int)) B (by omega) (by omega) (by omega) (by omega) (by omega) (by omega) sB (fun x hx => by have := hB x hx; rw [e2]; omega) (by omega) (by omega) (by omega) (by omega)
        refine ⟨x ++ y, by rw [List.length_append]; omega, fun q hq => ?_, fun u g s t hu hg => ?_⟩
        · rw [F_merkle_Many_1_r, e0, if_false?, show decide ((l.length : Int) > 1) = true by rw [decide_eq_true_eq]; omega, if_true?, split_1 N l.length (by omega) (by omega), bd_some, ck_of (by omega) (by omega), hcut, bd_some, gd_of (by omega), gd_of (by omega), Int.toNat_natCast, Nat.sub_zero, same_len, x1 q (by omega), bd_some, y1 (q ++ x) (by rw [List.length_append]; omega), bd_some, List.append_assoc]
        · have z1 := x2 (y ++ u) (pick (l.drop (sp l.length)) (f + ((sp l.length : Nat) : Int)) B ++ g) s t (by rw [List.length_append]; omega) (by rw [List.length_append, lp]; omega)
          have z2 := y2 u g s t (by omega) (by omega)
          rw [e1] at z1
          rw [e2] at z2
          rw [F_merkle_CheckMany_1_r, e0, if_false?, show ((l.length : Int) == 1) = false by simp; omega, if_false?, split_1 N l.length (by omega) (by omega), bd_some, ck_of (by omega) (by omega), hcut, bd_some, ep, List.append_assoc, List.append_assoc, z1, bd_some, ck_of (by omega) (by omega), show (l.length : Int) - ((sp l.length : Nat) : Int) = ((l.length - sp l.length : Nat) : Int) by omega, z2, bd_some, node_1 N hN, bd_some, hst]
end Go.Proofs.Tryd
namespace Go.Proofs.Tryd
open Go.Eng

theorem rt_nil (N : Nat) (hN : 100 ≤ N) : rt N [] = emp N := by
  have h := rt_any N hN 1 [] (by simp) (by simp; omega) (by simp)
  have e : F_merkle_Root_r N 1 [] = bd? (F_merkle_empty N) fun v1 => some v1 := rfl
  rw [e, emp_1 N hN] at h
  exact (Option.some.inj h).symm
theorem settle_put (N : Nat) (q : Bool) : F_merkle_path_settle_put N (Merklepath.mk [] false) q = some q := by cases q <;> rfl
theorem incl_acc (N : Nat) (hN : 100 ≤ N) (l : List (Arr 16)) (i : Nat) (x : Arr 16) (hx : l[i]? = some x) (hi : i < l.length) (hb : l.length ≤ 1000) (hn : l.length < N) :
    ∃ v, F_merkle_Inclusion N l (i : Int) = some (v, 0) ∧ F_merkle_CheckInclusion N x (i : Int) (l.length : Int) v (rt N l) = some true := by
  obtain ⟨v, v1, v2, v3⟩ := incl_ok N hN l.length N N l i [] [] false x hx hi (Nat.le_refl _) hn hn hb hn (by simp; omega) (by simp; omega)
  have v1 : F_merkle_Inclusion_1 N l (i : Int) [] = some v := v1
  have v2 : F_merkle_CheckInclusion_1 N (i : Int) (l.length : Int) x (Merklepath.mk v false) = some (rt N l, Merklepath.mk [] false) := v2
  refine ⟨v, ?_, ?_⟩
  · unfold F_merkle_Inclusion
    rw [show decide ((i : Int) < 0) = false by rw [decide_eq_false_iff_not]; omega, if_false?, show decide ((i : Int) ≥ (l.length : Int)) = false by rw [decide_eq_false_iff_not]; omega, if_false?, v1, bd_some]
  · unfold F_merkle_CheckInclusion
    rw [show decide ((l.length : Int) < 1) = false by rw [decide_eq_false_iff_not]; omega, if_false?, show decide ((l.length : Int) > 1099511627776) = false by rw [decide_eq_false_iff_not]; omega, if_false?, show decide ((i : Int) < 0) = false by rw [decide_eq_false_iff_not]; omega, if_false?, show decide ((i : Int) ≥ (l.length : Int)) = false by rw [decide_eq_false_iff_not]; omega, if_false?, v2, bd_some, settle_put, bd_some, beq_self_eq_true]
theorem beq_sym {α : Type} [BEq α] [LawfulBEq α] (a b : α) : (a == b) = (b == a) := by
  rw [Bool.eq_iff_iff, beq_iff_eq, beq_iff_eq]; exact ⟨Eq.symm, Eq.symm⟩
theorem cons_acc (N : Nat) (hN : 100 ≤ N) (l : List (Arr 16)) (m : Nat) (o r : Arr 16) (hm : m ≤ l.length) (hb : l.length ≤ 1000) (hn : l.length < N) :
    ∃ v, F_merkle_Consistency N l (m : Int) = some (v, 0) ∧ (1 ≤ m → F_merkle_CheckConsistency N (m : Int) (l.length : Int) (rt N (l.take m)) r v = some (r.l == (rt N l).l)) ∧
      (((∀ j, m ≠ 2 ^ j) ∨ m = l.length) → F_merkle_CheckConsistency N (m : Int) (l.length : Int) o (rt N l) v = some (o.l == (rt N (l.take m)).l)) := by
  have d1 : decide ((m : Int) < 0) = false := by rw [decide_eq_false_iff_not]; omega
  have d2 : decide ((m : Int) > (l.length : Int)) = false := by rw [decide_eq_false_iff_not]; omega
  have d3 : decide ((l.length : Int) > 1099511627776) = false := by rw [decide_eq_false_iff_not]; omega
  by_cases h0 : m = 0
  · refine ⟨[], ?_, fun h => by omega, fun _ => ?_⟩
    · unfold F_merkle_Consistency
      rw [d1, if_false?, d2, if_false?, show ((m : Int) == 0) = true by rw [h0]; rfl, if_true?]
    · unfold F_merkle_CheckConsistency
      rw [d1, if_false?, d2, if_false?, d3, if_false?, show ((m : Int) == 0) = true by rw [h0]; rfl, if_true?, emp_1 N hN, bd_some, settle_put, bd_some, h0, List.take_zero, rt_nil N hN]
  · have d4 : ((m : Int) == 0) = false := by simp; omega
    have hC : ∀ o' : Arr 16, (o' = rt N (l.take m) ∨ (m < l.length ∧ ∀ j, m ≠ 2 ^ j)) → ∃ v, F_merkle_Consistency N l (m : Int) = some (v, 0) ∧ F_merkle_CheckConsistency_1 N (m : Int) (l.length : Int) true o' (Merklepath.mk v false) = some (rt N (l.take m), rt N l, Merklepath.mk [] false) := fun o' ho => by
      obtain ⟨v, v1, v2, v3⟩ := cons_ok N hN l.length N N l m true o' [] [] false (Nat.le_refl _) hn hn (by omega) hm hb hn (by simp; omega) (by simp; omega) (fun _ => ho)
      have v1 : F_merkle_Consistency_1 N l (m : Int) true [] = some v := v1
      refine ⟨v, ?_, v2⟩
      unfold F_merkle_Consistency
      rw [d1, if_false?, d2, if_false?, d4, if_false?]
      by_cases h5 : m = l.length
      · rw [show ((m : Int) == (l.length : Int)) = true by rw [h5]; simp, if_true?]
        have e : F_merkle_Consistency_1 N l (m : Int) true [] = some [] := by
          obtain ⟨M, rfl⟩ : ∃ M, N = M + 1 := ⟨N - 1, by omega⟩
          show F_merkle_Consistency_1_r (M + 1) (M + 1) l (m : Int) true [] = some []
          rw [F_merkle_Consistency_1_r, show ((m : Int) == (l.length : Int)) = true by rw [h5]; simp, if_true?, if_true?]
        rw [e] at v1
        rw [← Option.some.inj v1]
      · rw [show ((m : Int) == (l.length : Int)) = false by simp; omega, if_false?, v1, bd_some]
    obtain ⟨v, v1, v2⟩ := hC _ (.inl rfl)
    refine ⟨v, v1, fun _ => ?_, fun hc => ?_⟩
    · unfold F_merkle_CheckConsistency
      rw [d1, if_false?, d2, if_false?, d3, if_false?, d4, if_false?, v2, bd_some, beq_self_eq_true, if_true?, settle_put, bd_some, beq_sym]
    · unfold F_merkle_CheckConsistency
      rw [d1, if_false?, d2, if_false?, d3, if_false?, d4, if_false?]
      rcases Nat.lt_or_ge m l.length with h6 | h6
      · have hp : ∀ j, m ≠ 2 ^ j := by
          rcases hc with hc | hc
          · exact hc
          · omega
        obtain ⟨v', w1, w2⟩ := hC o (.inr ⟨h6, hp⟩)
        rw [v1] at w1
        obtain rfl : v = v' := congrArg Prod.fst (Option.some.inj w1)
        rw [w2, bd_some, beq_self_eq_true]
        cases hq : ((rt N (l.take m)).l == o.l)
        · rw [if_false?, settle_put, bd_some, beq_sym, hq]
        · rw [if_true?, settle_put, bd_some, beq_sym, hq]
      · have h7 : m = l.length := by omega
        have e : l.take m = l := by rw [h7, List.take_length]
        have hv : v = [] := by
          have := v1
          unfold F_merkle_Consistency at this
          rw [d1, if_false?, d2, if_false?, d4, if_false?, show ((m : Int) == (l.length : Int)) = true by rw [h7]; simp, if_true?] at this
          exact (congrArg Prod.fst (Option.some.inj this)).symm
        have e2 : F_merkle_CheckConsistency_1 N (m : Int) (l.length : Int) true o (Merklepath.mk v false) = some (o, o, Merklepath.mk v false) := by
          obtain ⟨M, rfl⟩ : ∃ M, N = M + 1 := ⟨N - 1, by omega⟩
          show F_merkle_CheckConsistency_1_r (M + 1) (M + 1) (m : Int) (l.length : Int) true o (Merklepath.mk v false) = _
          rw [F_merkle_CheckConsistency_1_r, show ((m : Int) == (l.length : Int)) = true by rw [h7]; simp, if_true?, if_true?]
        rw [e2, bd_some, beq_self_eq_true, if_true?, hv, settle_put, bd_some, e]
theorem ascB_of : ∀ {n a : Int} {p : List Int}, p.Pairwise (· < ·) → (∀ x ∈ p, a < x ∧ x < n) → ascB n a p = true
  | n, a, [], _, _ => rfl
  | n, a, x :: xs, h, hb => by
    have h1 := List.pairwise_cons.1 h
    have h2 := hb x (by simp)
    rw [ascB, if_neg (by omega), if_neg (by omega)]
    exact ascB_of h1.2 fun y hy => ⟨h1.1 y hy, (hb y (by simp [hy])).2⟩
theorem many_acc (N : Nat) (hN : 100 ≤ N) (l : List (Arr 16)) (p : List Int) (h1 : 1 ≤ l.length) (hb : l.length ≤ 1000) (hn : l.length < N) (hs : p.Pairwise (· < ·)) (hp : ∀ x ∈ p, 0 ≤ x ∧ x < (l.length : Int)) (hpb : p.length ≤ 1000) (hpn : p.length < N) :
    ∃ v, F_merkle_Many N l p = some (v, 0) ∧ F_merkle_CheckMany N (l.length : Int) p (pick l 0 p) v (rt N l) = some true := by
  obtain ⟨v, v0, v1, v2⟩ := many_ok N hN l.length N N l 0 p (Nat.le_refl _) hn hn h1 hb hn hs (fun x hx => by have := hp x hx; omega) hpb hpn (by omega) (by omega)
  have w1 : F_merkle_Many_1 N l 0 p [] = some v := v1 [] (by simp; omega)
  have w2 := v2 [] [] false false (by simp; omega) (by simp; omega)
  rw [List.append_nil, List.append_nil] at w2
  have w2 : F_merkle_CheckMany_1 N 0 (l.length : Int) p (Merklepath.mk v false) (Merklepath.mk (pick l 0 p) false) = some (rt N l, Merklepath.mk [] false, Merklepath.mk [] false) := w2
  have ha : ascB (l.length : Int) (-1) p = true := ascB_of hs fun x hx => by have := hp x hx; omega
  refine ⟨v, ?_, ?_⟩
  · unfold F_merkle_Many
    rw [ascend_1 N p _ hpn (by omega), bd_some, ha, if_true?, show decide ((l.length : Int) > 0) = true by rw [decide_eq_true_eq]; omega, if_true?, w1, bd_some]
  · unfold F_merkle_CheckMany
    rw [show decide ((l.length : Int) < 0) = false by rw [decide_eq_false_iff_not]; omega, if_false?, show decide ((l.length : Int) > 1099511627776) = false by rw [decide_eq_false_iff_not]; omega, if_false?, ascend_1 N p _ hpn (by omega), bd_some, ha, if_true?, pick_len, show ((p.length : Int) != (p.length : Int)) = false by simp, if_false?, show ((l.length : Int) == 0) = false from beq_false_of_ne (by omega), if_false?, w2, bd_some, settle_put, bd_some, beq_self_eq_true]

theorem acc_1 (N : Nat) (l : List (Arr 16)) (p2 : Int) (o v3 v4 : Arr 16) (v6 : List (Arr 16) × Int) (fm : Nat) (hf : Int.tmod p2 ((l.length : Int) + 1) = (fm : Int)) (hfm : fm ≤ 1000) (hs : F_law03_sanity N = some true)
    (b1 : ((∀ j, fm ≠ 2 ^ j) ∨ fm = l.length) → F_merkle_CheckConsistency N (fm : Int) (l.length : Int) o v3 v6.1 = some (o.l == v4.l)) (b2 : 1 ≤ fm → F_merkle_CheckConsistency N (fm : Int) (l.length : Int) v4 o v6.1 = some (o.l == v3.l)) :
    ∀ (k m j : Nat), fm ≤ 2 ^ j + k → k < m → (j = 0 ∨ 2 ^ (j - 1) < fm) → L_law03_MerkleProofsAreAccepted_1 N l p2 o v3 v4 v6 m ((2 ^ j : Nat) : Int) = some true
  | k, 0, j, _, h, _ => by omega
  | k, m + 1, j, hk, hm, hj => by
    have hpos := Nat.two_pow_pos j
    rw [L_law03_MerkleProofsAreAccepted_1, hf]
    by_cases h1 : 2 ^ j < fm
    · obtain ⟨k', rfl⟩ : ∃ k', k = k' + 1 := ⟨k - 1, by omega⟩
      have e : 2 ^ (j + 1) = 2 ^ j * 2 := Nat.pow_succ ..
      rw [show decide (((2 ^ j : Nat) : Int) < (fm : Int)) = true by rw [decide_eq_true_eq]; omega, if_true?, ck_of (by omega) (by omega), show 2 * ((2 ^ j : Nat) : Int) = ((2 ^ (j + 1) : Nat) : Int) by rw [e]; omega]
      exact acc_1 N l p2 o v3 v4 v6 fm hf hfm hs b1 b2 k' m (j + 1) (by omega) (by omega) (.inr (by rw [Nat.add_sub_cancel]; exact h1))
    · rw [show decide (((2 ^ j : Nat) : Int) < (fm : Int)) = false by rw [decide_eq_false_iff_not]; omega, if_false?, hs]
      have fin : ∀ b : Bool, b = true → (bd? (some true) fun v18 => gd? (v18 = true) (if? ((fm : Int) == 0) (some true) (bd? (F_merkle_CheckConsistency N (fm : Int) (l.length : Int) v4 o v6.1) fun v19 => some (v19 == (o.l == v3.l))))) = some true := fun _ _ => by
        rw [bd_some, gd_of rfl]
        by_cases h0 : fm = 0
        · rw [show ((fm : Int) == 0) = true by rw [h0]; rfl, if_true?]
        · rw [show ((fm : Int) == 0) = false by simp; omega, if_false?, b2 (by omega), bd_some, beq_self_eq_true]
      have fin := fin true rfl
      by_cases h2 : 2 ^ j = fm
      · rw [show (((2 ^ j : Nat) : Int) != (fm : Int)) = false by rw [h2]; simp, if_false?]
        by_cases h3 : fm = l.length
        · rw [show ((fm : Int) == (l.length : Int)) = true by rw [h3]; simp, if_true?, b1 (.inr h3), bd_some, beq_self_eq_true, if_true?]
          exact fin
        · rw [show ((fm : Int) == (l.length : Int)) = false by simp; omega, if_false?]
          exact fin
      · have hp : ∀ i, fm ≠ 2 ^ i := fun i hi => by
          rcases Nat.lt_trichotomy i j with h | h | h
          · rcases hj with hj | hj
            · omega
            · have : 2 ^ i ≤ 2 ^ (j - 1) := Nat.pow_le_pow_right (by omega) (by omega)
              omega
          · subst h; exact h2 hi.symm
          · have : 2 ^ (j + 1) ≤ 2 ^ i := Nat.pow_le_pow_right (by omega) h
            rw [Nat.pow_succ] at this; omega
        rw [show (((2 ^ j : Nat) : Int) != (fm : Int)) = true by rw [bne_iff_ne]; omega, if_true?, b1 (.inl hp), bd_some, beq_self_eq_true, if_true?]
        exact fin
theorem acc_0 (N : Nat) (hN : 200 ≤ N) (l : List (Arr 16)) (p1 p2 p3 : Int) (o : Arr 16) (at_ fm : Nat) (x : Arr 16) (v5 v6 : List (Arr 16)) (h1 : 1 ≤ l.length) (hb : l.length ≤ 40) (hf : Int.tmod p2 ((l.length : Int) + 1) = (fm : Int)) (hfm : fm ≤ l.length) (ha : Int.tmod p1 (l.length : Int) = (at_ : Int)) (hat : at_ < l.length) (hx : l[at_]? = some x)
    (c1 : F_merkle_CheckInclusion N x (at_ : Int) (l.length : Int) v5 (rt N l) = some true) (c2 : ∀ r : Arr 16, 1 ≤ fm → F_merkle_CheckConsistency N (fm : Int) (l.length : Int) (rt N (l.take fm)) r v6 = some (r.l == (rt N l).l))
    (c3 : ∀ o : Arr 16, ((∀ j, fm ≠ 2 ^ j) ∨ fm = l.length) → F_merkle_CheckConsistency N (fm : Int) (l.length : Int) o (rt N l) v6 = some (o.l == (rt N (l.take fm)).l)) :
    ∀ (k m i : Nat) (p : List Int) (q : List (Arr 16)), i + k = l.length → k < m → p.Pairwise (· < ·) → (∀ x ∈ p, 0 ≤ x ∧ x < (i : Int)) → p.length ≤ i → q = pick l 0 p → L_law03_MerkleProofsAreAccepted_0 N l p1 p2 p3 o (rt N l) (rt N (l.take fm)) (v5, 0) (v6, 0) m (i : Int) p q = some true
  | k, 0, i, p, q, _, h, _, _, _, _ => by omega
  | k, m + 1, i, p, q, hk, hm, hs, hp, hpl, hq => by
    have ql : q.length = p.length := by rw [hq]; exact pick_len l 0 p
    rw [L_law03_MerkleProofsAreAccepted_0]
    by_cases hi : i < l.length
    · obtain ⟨k', rfl⟩ : ∃ k', k = k' + 1 := ⟨k - 1, by omega⟩
      rw [show decide ((i : Int) < (l.length : Int)) = true by rw [decide_eq_true_eq]; omega, if_true?, gd_of (by omega), gd_of (by show (i : Int) ≤ 64; omega)]
      cases hc : (bits .and .u64 (p3 / 2 ^ (i : Int).toNat) 1 == 1)
      · rw [if_false?, ck_of (by omega) (by omega), cast_succ]
        exact acc_0 N hN l p1 p2 p3 o at_ fm x v5 v6 h1 hb hf hfm ha hat hx c1 c2 c3 k' m (i + 1) p q (by omega) (by omega) hs (fun x hx => by have := hp x hx; omega) (by omega) hq
      · rw [if_true?, gd_of (by simp; omega), get_of hi, gd_of (by simp; omega), ck_of (by omega) (by omega), cast_succ]
        refine acc_0 N hN l p1 p2 p3 o at_ fm x v5 v6 h1 hb hf hfm ha hat hx c1 c2 c3 k' m (i + 1) (p ++ [(i : Int)]) (q ++ [l[i]]) (by omega) (by omega) ?_ (fun y hy => ?_) (by simp; omega) ?_
        · rw [List.pairwise_append]
          refine ⟨hs, List.pairwise_singleton .., fun a ha b hb => ?_⟩
          obtain rfl : b = (i : Int) := by simpa using hb
          exact (hp a ha).2
        · rcases List.mem_append.1 hy with hy | hy
          · have := hp y hy; omega
          · obtain rfl : y = (i : Int) := by simpa using hy
            omega
        · rw [hq]
          unfold pick
          rw [List.map_append]
          congr 1
          rw [List.map_cons, List.map_nil, Int.sub_zero, Int.toNat_natCast, List.getD_eq_getElem?_getD, List.getElem?_eq_getElem hi]; rfl
    · obtain ⟨v, w1, w2⟩ := many_acc N (by omega) l p h1 (by omega) (by omega) hs (fun x hx => by have := hp x hx; omega) (by omega) (by omega)
      have g0 : (((0 : Int) != 0) = false) := rfl
      have hxx : l[at_] = x := by rw [List.getElem?_eq_getElem hat] at hx; exact Option.some.inj hx
      have hcc : F_merkle_CheckConsistency N (fm : Int) (l.length : Int) (rt N (l.take fm)) (rt N l) v6 = some true := by
        by_cases h0 : fm = 0
        · rw [c3 _ (.inl fun j hj => by have := Nat.two_pow_pos j; omega), beq_self_eq_true]
        · rw [c2 _ (by omega), beq_self_eq_true]
      rw [show decide ((i : Int) < (l.length : Int)) = false by rw [decide_eq_false_iff_not]; omega, if_false?, w1, bd_some]
      simp only
      rw [gd_of g0, gd_of g0, gd_of g0, ha, get_of hat, hxx, c1, bd_some, gd_of rfl, hf, hcc, bd_some, gd_of rfl, hq, w2, bd_some, gd_of rfl]
      exact acc_1 N l p2 o (rt N l) (rt N (l.take fm)) (v6, 0) fm hf (by omega) (sanity_eq N (by omega)) (c3 o) (c2 o) fm N 0 (by omega) (by omega) (.inl rfl)
theorem law5_eq (N : Nat) (hN : 200 ≤ N) (l : List (Arr 16)) (p1 p2 p3 : Int) (o : Arr 16) {A D E : Prop} (_ : A) (h1 : IntKind.min .u8 ≤ p1 ∧ p1 ≤ IntKind.max .u8) (h2 : IntKind.min .u8 ≤ p2 ∧ p2 ≤ IntKind.max .u8) (_ : D) (_ : E) : F_law03_MerkleProofsAreAccepted N l p1 p2 p3 o = some true := by
  have m0 : IntKind.min .u8 = 0 := by decide
  have m1 : IntKind.max .u8 = 255 := by decide
  rw [m0, m1] at h1 h2
  unfold F_law03_MerkleProofsAreAccepted
  by_cases e0 : l.length = 0
  · rw [show ((l.length : Int) == 0) = true by rw [e0]; rfl, if_true?, sanity_eq N (by omega)]; rfl
  · rw [show ((l.length : Int) == 0) = false by simp; intro h; rw [h] at e0; exact e0 rfl, if_false?]
    by_cases e1 : (l.length : Int) > 40
    · rw [show decide ((l.length : Int) > 40) = true by simpa using e1, if_true?, sanity_eq N (by omega)]; rfl
    · rw [show decide ((l.length : Int) > 40) = false by simpa using e1, if_false?]
      have t1 : Int.tmod p1 (l.length : Int) = p1 % (l.length : Int) := Int.tmod_eq_emod_of_nonneg h1.1
      have t2 : Int.tmod p2 ((l.length : Int) + 1) = p2 % ((l.length : Int) + 1) := Int.tmod_eq_emod_of_nonneg h2.1
      have u1 := Int.emod_nonneg p1 (b := (l.length : Int)) (by omega)
      have u2 := Int.emod_lt_of_pos p1 (b := (l.length : Int)) (by omega)
      have u3 := Int.emod_nonneg p2 (b := (l.length : Int) + 1) (by omega)
      have u4 := Int.emod_lt_of_pos p2 (b := (l.length : Int) + 1) (by omega)
      obtain ⟨at_, ha⟩ : ∃ a : Nat, p1 % (l.length : Int) = (a : Int) := ⟨(p1 % (l.length : Int)).toNat, by omega⟩
      obtain ⟨fm, hf⟩ : ∃ a : Nat, p2 % ((l.length : Int) + 1) = (a : Int) := ⟨(p2 % ((l.length : Int) + 1)).toNat, by omega⟩
      rw [ha] at t1 u1 u2
      rw [hf] at t2 u3 u4
      have hat : at_ < l.length := by omega
      have hfm : fm ≤ l.length := by omega
      have hx : l[at_]? = some l[at_] := List.getElem?_eq_getElem hat
      obtain ⟨v5, a1, a2⟩ := incl_acc N (by omega) l at_ _ hx hat (by omega) (by omega)
      obtain ⟨v6, b1, _, _⟩ := cons_acc N (by omega) l fm (emp N) (emp N) hfm (by omega) (by omega)
      have hv : ∀ o r : Arr 16, (1 ≤ fm → F_merkle_CheckConsistency N (fm : Int) (l.length : Int) (rt N (l.take fm)) r v6 = some (r.l == (rt N l).l)) ∧ (((∀ j, fm ≠ 2 ^ j) ∨ fm = l.length) → F_merkle_CheckConsistency N (fm : Int) (l.length : Int) o (rt N l) v6 = some (o.l == (rt N (l.take fm)).l)) := fun o r => by
        obtain ⟨v', c1, c2, c3⟩ := cons_acc N (by omega) l fm o r hfm (by omega) (by omega)
        rw [b1] at c1
        obtain rfl : v6 = v' := congrArg Prod.fst (Option.some.inj c1)
        exact ⟨c2, c3⟩
      have r1 := rt_1 N (by omega) l (by omega) (by omega)
      have r2 := rt_1 N (by omega) (l.take fm) (by rw [List.length_take]; omega) (by rw [List.length_take]; omega)
      rw [ck_of (by omega) (by omega), gd_of (by omega), ck_of (by omega) (by omega), ck_of (by omega) (by omega), gd_of (by omega), r1, bd_some, t2, gd_of (by omega), Int.toNat_natCast, gd_of hfm, Nat.sub_zero, r2, bd_some, t1, a1, bd_some, b1, bd_some]
      exact acc_0 N hN l p1 p2 p3 o at_ fm _ v5 v6 (by omega) (by omega) t2 hfm t1 hat hx a2 (fun r => (hv (emp N) r).1) (fun o => (hv o (emp N)).2) l.length N 0 [] [] (by omega) (by omega) List.Pairwise.nil (by simp) (by simp) rfl
end Go.Proofs.Tryd
namespace Go.Proofs.Tryd
open Go.Eng Go.RowKit Go.ChangeShapes Go.WideShapes Go.ChangeAt
theorem okWide_slice {P : Program} {w : World} {r : Reach} {base : Nat} {t e : TypeId} {v : Value} (ht : P.underlying t = some (.slice e)) (h : Value.okWide P w r base t v) : ∃ b l c, v = .slice b l c := by
  simp only [Value.okWide, ht, Cell.okWide] at h
  cases v <;> simp_all [Cell.ok]
theorem okWide_array {P : Program} {w : World} {r : Reach} {base : Nat} {t e : TypeId} {n : Nat} {v : Value} (ht : P.underlying t = some (.array n e)) (h : Value.okWide P w r base t v) : ∃ cs, v = .agg cs ∧ cs.size = P.cellsOf t := by
  simp only [Value.okWide, ht] at h
  obtain ⟨cs, h1, h2, _⟩ := h
  exact ⟨cs, h1, h2⟩
theorem crep_arr {G : Gh} {m : HM} {k : IntKind} {n : Nat} {x : Arr n} {cs : Array Value} (h : CRep G (rA k x) cs.toList) : AV.Rep G m (.agg (x.l.map (aI k))) (.agg cs) := by
  have h1 := crep_agg (m := m) h
  unfold rA at h1
  rw [List.map_map] at h1
  exact h1
end Go.Proofs.Tryd
namespace Go.Proofs.YtjhhgpencphgoaaDoor
open Go.Eng Go.RowKit Go.ChangeShapes Go.WideShapes Go.ChangeAt
theorem Tryd.own : ownKnob Tryd.prog.godebug = none := by kernel_rfl
theorem Tryd.laidOut : laidOutB Tryd.prog = true := by kernel_rfl
theorem Tryd.g0 : Tryd.prog.globalNamed "math/bits.deBruijn32tab" = some 0 := by kernel_rfl
theorem Tryd.gt0 : (Tryd.prog.globals[0]?).map (·.type) = some 209 := by kernel_rfl
theorem Tryd.g1 : Tryd.prog.globalNamed "math/bits.deBruijn64tab" = some 1 := by kernel_rfl
theorem Tryd.gt1 : (Tryd.prog.globals[1]?).map (·.type) = some 203 := by kernel_rfl
theorem Tryd.g4 : Tryd.prog.globalNamed "rivermark/rivermarkref02.constants" = some 4 := by kernel_rfl
theorem Tryd.gt4 : (Tryd.prog.globals[4]?).map (·.type) = some 238 := by kernel_rfl
theorem Tryd.g3 : Tryd.prog.globalNamed "rivermark/hash.constants" = some 3 := by kernel_rfl
theorem Tryd.gt3 : (Tryd.prog.globals[3]?).map (·.type) = some 238 := by kernel_rfl
/-- A world in which the listed variables hold what the row says. -/
noncomputable def laidWorld (os : Os) : World :=
  { World.holding Tryd.prog os ⟨#[], #[], []⟩ with heap := (((((World.holding Tryd.prog os ⟨#[], #[], []⟩).heap.modify 0 fun
      | .cells _ t frozen => .cells (gl0.map fun z => Value.int .u8 z).toArray t frozen
      | o => o).modify 1 fun
      | .cells _ t frozen => .cells (gl1.map fun z => Value.int .u8 z).toArray t frozen
      | o => o).modify 4 fun
      | .cells _ t frozen => .cells (gl4.map fun z => Value.int .u32 z).toArray t frozen
      | o => o).modify 3 fun
      | .cells _ t frozen => .cells (gl3.map fun z => Value.int .u32 z).toArray t frozen
      | o => o) }
theorem laid_met (os : Os) (args : Array Value) : laidMet Tryd.prog Rows.merkleProofsAreAcceptedRow.laid ((laidWorld os).forCall (fun _ _ => 0) ⟨#[], args, []⟩).memory :=
  laidMet_of_run' 8 (by kernel_rfl) (by kernel_rfl)
theorem glOk {W : World} (hL : laidMet Tryd.prog [("math/bits.deBruijn32tab", Lib.tabData .u8 gl0), ("math/bits.deBruijn64tab", Lib.tabData .u8 gl1), ("rivermark/rivermarkref02.constants", Lib.tabData .u32 gl4), ("rivermark/hash.constants", Lib.tabData .u32 gl3)] W) : GlOk (gOf W) := by
  have t0 := glOk_tab (Lib.tabIs_of_head Tryd.g0 Tryd.gt0 Tryd.underlying209 Tryd.underlying5 (by kernel_rfl) (by kernel_rfl) hL) Tryd.g0
  have l0 := laidMet.tail hL
  have t1 := glOk_tab (Lib.tabIs_of_head Tryd.g1 Tryd.gt1 Tryd.underlying203 Tryd.underlying5 (by kernel_rfl) (by kernel_rfl) l0) Tryd.g1
  have l1 := laidMet.tail l0
  have t4 := glOk_tab (Lib.tabIs_of_head Tryd.g4 Tryd.gt4 Tryd.underlying238 Tryd.underlying201 (by kernel_rfl) (by kernel_rfl) l1) Tryd.g4
  have l2 := laidMet.tail l1
  have t3 := glOk_tab (Lib.tabIs_of_head Tryd.g3 Tryd.gt3 Tryd.underlying238 Tryd.underlying201 (by kernel_rfl) (by kernel_rfl) l2) Tryd.g3
  intro g ds h
  unfold glOf at h
  split at h
  · cases h; exact t0
  · cases h; exact t1
  · cases h; exact t3
  · cases h; exact t4
  · cases h
set_option maxRecDepth 100000 in
theorem accepted_lifted (hc : ∀ (x0 : (List (Arr 16))) (x1 : Int) (x2 : Int) (x3 : Int) (x4 : (Arr 16)), (x0.length ≤ 9223372036854775807 ∧ ∀ y ∈ x0, (fun y : (Arr 16) => ∀ z ∈ y.l, IntKind.min .u8 ≤ z ∧ z ≤ IntKind.max .u8) y) → (IntKind.min .u8 ≤ x1 ∧ x1 ≤ IntKind.max .u8) → (IntKind.min .u8 ≤ x2 ∧ x2 ≤ IntKind.max .u8) → (IntKind.min .u64 ≤ x3 ∧ x3 ≤ IntKind.max .u64) → (∀ z ∈ x4.l, IntKind.min .u8 ≤ z ∧ z ≤ IntKind.max .u8) →  ACall Tryd.prog 5 [.D (.L (x0.map (rA .u8))), .D (.I .u8 x1), .D (.I .u8 x2), .D (.I .u64 x3), .agg (x4.l.map (aI .u8))] [] (.D (.B true)) [] [])
    (os : Os) (started : os.Started) (H : Type) (enc : TypeId × Value → H) :
    ReturnsInHanded {} Tryd.checked os 5 .any (fun w args => (Rows.merkleProofsAreAcceptedSpec.pre enc Tryd.prog Tryd.f5 Rows.merkleProofsAreAcceptedRow.domain false w args ∧ laidMet Tryd.prog Rows.merkleProofsAreAcceptedRow.laid w) ∧ sizedMet enc Tryd.prog Tryd.f5 (OpenSpec.ofChange Rows.merkleProofsAreAcceptedSpec) false w args) (Rows.merkleProofsAreAcceptedSpec.post enc Tryd.prog Tryd.f5 false true false false) := by
  refine returnsInHanded_of_change_and (C := Tryd.checked) (X := fun w _ => laidMet Tryd.prog Rows.merkleProofsAreAcceptedRow.laid w) (fun _ _ _ hh h => laidMet.of_heap hh h) Tryd.own started (by kernel_rfl) Tryd.func5
    (ChangeSpec.witness_at (enc := enc) (C := Tryd.checked) (os := os) (X := fun w _ => laidMet Tryd.prog Rows.merkleProofsAreAcceptedRow.laid w) false (laidWorld os) #[.slice none 0 0, .int .u8 0, .int .u8 0, .int .u64 0, .agg #[.int .u8 0, .int .u8 0, .int .u8 0, .int .u8 0, .int .u8 0, .int .u8 0, .int .u8 0, .int .u8 0, .int .u8 0, .int .u8 0, .int .u8 0, .int .u8 0, .int .u8 0, .int .u8 0, .int .u8 0, .int .u8 0]] 8 rfl (by kernel_rfl) (by kernel_rfl) (by kernel_rfl) (by kernel_rfl) (by kernel_rfl) (laid_met os _)) ?_
  intro W base args ds gs before hval0 hW _ _ hL _
  have hval : ∀ (j : Nat) t v, Tryd.f5.params[j]? = some t → args[j]? = some v → Value.okWide Tryd.prog W .any base t v := hval0
  have hW' := hW
  obtain ⟨p, q, hA0, hV, rfl, hfz, hnd⟩ := hW
  have hA : DataW.TrodAll enc Tryd.prog W 0 (fun _ => true) true Tryd.f5.params.toList args.toList ds p := hA0
  rw [Tryd.params5] at hA hval
  obtain ⟨v0, vs1, d0, ds1, p0, p1, e0, rfl, _, t0, hA1⟩ := trodAll_cons hA
  obtain ⟨v1, vs2, d1, ds2, _, _, rfl, rfl, _, t1, hA2⟩ := trodAll_cons hA1
  obtain ⟨v2, vs3, d2, ds3, _, _, rfl, rfl, _, t2, hA3⟩ := trodAll_cons hA2
  obtain ⟨v3, vs4, d3, ds4, _, _, rfl, rfl, _, t3, hA4⟩ := trodAll_cons hA3
  obtain ⟨v4, vs5, d4, ds5, _, _, rfl, rfl, _, t4, hA5⟩ := trodAll_cons hA4
  obtain ⟨rfl, rfl, _⟩ := trodAll_nil hA5
  obtain ⟨rfl, rfl⟩ := trodVars_none hV
  have hargs : args = #[v0, v1, v2, v3, v4] := by rw [← Array.toArray_toList (xs := args), e0]
  subst hargs
  obtain ⟨w0, l0, k0_, rfl⟩ := Go.Proofs.Tryd.okWide_slice Tryd.underlying22 (hval 0 22 v0 rfl rfl)
  obtain ⟨w1, rfl⟩ := okWide_int Tryd.underlying5 (hval 1 5 v1 rfl rfl)
  obtain ⟨w2, rfl⟩ := okWide_int Tryd.underlying5 (hval 2 5 v2 rfl rfl)
  obtain ⟨w3, rfl⟩ := okWide_int Tryd.underlying42 (hval 3 42 v3 rfl rfl)
  obtain ⟨w4, rfl, _⟩ := Go.Proofs.Tryd.okWide_array Tryd.underlying31 (hval 4 31 v4 rfl rfl)
  obtain ⟨f0, t0⟩ := t0
  obtain ⟨f1, t1⟩ := t1
  obtain ⟨f2, t2⟩ := t2
  obtain ⟨f3, t3⟩ := t3
  obtain ⟨f4, t4⟩ := t4
  obtain ⟨x0, k0, r0⟩ := (Cv.slice (Cv.array Tryd.underlying5 (by kernel_rfl) Tryd.underlying31 (by kernel_rfl)) (by decide) Tryd.underlying22 (by kernel_rfl)).get enc W _ _ f0 _ _ t0
  obtain ⟨x1, k1, r1⟩ := (Cv.int Tryd.underlying5 (by kernel_rfl)).get enc W _ _ f1 _ _ t1
  obtain ⟨x2, k2, r2⟩ := (Cv.int Tryd.underlying5 (by kernel_rfl)).get enc W _ _ f2 _ _ t2
  obtain ⟨x3, k3, r3⟩ := (Cv.int Tryd.underlying42 (by kernel_rfl)).get enc W _ _ f3 _ _ t3
  obtain ⟨x4, k4, r4⟩ := (Cv.array Tryd.underlying5 (by kernel_rfl) Tryd.underlying31 (by kernel_rfl)).get enc W _ _ f4 _ _ t4
  have hrep : AV.RepL (gOf W) (fun _ => none) [.D (.L (x0.map (rA .u8))), .D (.I .u8 x1), .D (.I .u8 x2), .D (.I .u64 x3), .agg (x4.l.map (aI .u8))] [.slice w0 l0 k0_, .int .u8 w1, .int .u8 w2, .int .u64 w3, .agg w4] := by
    unfold AV.RepL
    refine ⟨_, _, rfl, crep_one r0 rfl, ?_⟩
    unfold AV.RepL
    refine ⟨_, _, rfl, crep_one r1 rfl, ?_⟩
    unfold AV.RepL
    refine ⟨_, _, rfl, crep_one r2 rfl, ?_⟩
    unfold AV.RepL
    refine ⟨_, _, rfl, crep_one r3 rfl, ?_⟩
    unfold AV.RepL
    refine ⟨_, _, rfl, Go.Proofs.Tryd.crep_arr r4, ?_⟩
    unfold AV.RepL; rfl
  refine (law_calls ⟨Tryd.f5, Tryd.func5, by kernel_rfl, by kernel_rfl⟩ (glOk hL) (vs := #[.slice w0 l0 k0_, .int .u8 w1, .int .u8 w2, .int .u64 w3, .agg w4]) (hc x0 x1 x2 x3 x4 k0 k1 k2 k3 k4) hrep).mono fun e W' ⟨he, hb⟩ => ?_
  exact ⟨_, he, law_post (tb := 4) Tryd.laidOut hW' rfl rfl (by rfl) Tryd.underlying4 (by rw [Tryd.params5]; decide +kernel) hb⟩
theorem accepted_holds (hc : ∀ (x0 : (List (Arr 16))) (x1 : Int) (x2 : Int) (x3 : Int) (x4 : (Arr 16)), (x0.length ≤ 9223372036854775807 ∧ ∀ y ∈ x0, (fun y : (Arr 16) => ∀ z ∈ y.l, IntKind.min .u8 ≤ z ∧ z ≤ IntKind.max .u8) y) → (IntKind.min .u8 ≤ x1 ∧ x1 ≤ IntKind.max .u8) → (IntKind.min .u8 ≤ x2 ∧ x2 ≤ IntKind.max .u8) → (IntKind.min .u64 ≤ x3 ∧ x3 ≤ IntKind.max .u64) → (∀ z ∈ x4.l, IntKind.min .u8 ≤ z ∧ z ≤ IntKind.max .u8) →  ACall Tryd.prog 5 [.D (.L (x0.map (rA .u8))), .D (.I .u8 x1), .D (.I .u8 x2), .D (.I .u64 x3), .agg (x4.l.map (aI .u8))] [] (.D (.B true)) [] []) : Rows.MerkleProofsAreAcceptedSaid :=
  OpenClaim.holds_of_wide 5 Tryd.f5 rfl rfl rfl rfl rfl rfl rfl ⟨rfl, rfl, rfl, rfl, rfl⟩ rfl rfl rfl rfl rfl (by kernel_rfl) Tryd.func5 (by kernel_rfl)
    (of_decide_eq_true (by kernel_rfl)) (by unfold Func.isWrapper; first | (rw [if_pos (by decide +kernel)]; kernel_rfl) | (rw [if_neg (by decide +kernel)]; exact ⟨rfl, rfl⟩))
    (fun os started H enc _ => accepted_lifted hc os started H enc)
theorem accepted_said : Rows.MerkleProofsAreAcceptedSaid := accepted_holds fun x0 x1 x2 x3 x4 k0 k1 k2 k3 k4 => Go.Proofs.Tryd.c_law03_MerkleProofsAreAccepted 2000 x0 x1 x2 x3 x4 true (Go.Proofs.Tryd.law5_eq 2000 (by omega) x0 x1 x2 x3 x4 k0 k1 k2 k3 k4)
theorem accepted_card : Rows.MerkleProofsAreAcceptedCardSaid :=
  Claim7.holds_tied_plain_at .later [] [.data, .data, .data, .data] true (true, "81ac52f078b63a2afad7e3117cff2836913e2444110d93355cacfc2370b8fad1") true accepted_said (fun _ h => by cases h) (by kernel_rfl) (fun _ h => by cases h) merkleProofsAreAccepted_row_tie rfl ⟨rfl, rfl⟩ (by kernel_rfl) rfl
    (fun f fn hf hfn => by
      obtain rfl : f = 5 := Option.some.inj ((show Tryd.prog.funcNamed "rivermark/rivermarklaw03.MerkleProofsAreAccepted" = some 5 by kernel_rfl).symm.trans hf) |>.symm
      obtain rfl : fn = Tryd.f5 := (Option.some.inj (Tryd.func5.symm.trans hfn)).symm
      exact ⟨by kernel_rfl, fun j t ht => by
        rw [Tryd.params5] at ht
        have hm : t ∈ [22, 5, 5, 42, 31] := by
          obtain ⟨hj, e⟩ := Array.getElem?_eq_some_iff.1 ht
          rw [← e]
          exact Array.getElem_mem_toList hj
        have ha : ∀ t ∈ [22, 5, 5, 42, 31], Tryd.prog.wantsStandIn t = false := by decide +kernel
        exact ha t hm⟩)
    (by kernel_rfl)
end Go.Proofs.YtjhhgpencphgoaaDoor
