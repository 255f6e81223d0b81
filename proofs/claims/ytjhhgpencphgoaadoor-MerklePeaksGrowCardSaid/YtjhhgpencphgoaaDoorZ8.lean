/- For every input that the row takes, MerklePeaksGrow answers true and leaves its arguments as they were. No condition but the row's own. -/
import Derived.Test.YtjhhgpencphgoaaDoorL8G2
import Derived.Test.YtjhhgpencphgoaaDoorP1
import Derived.Laws.Bits64
import Derived.Lib.EndianBits
import Derived.Lib.Varint
import Derived.Lib.BitFns
import Derived.KernelRfl
import Derived.Laws.Bits64b
import Derived.Laws.Bits128
import Derived.Lib.TrailingZeros
import Derived.Test.YtjhhgpencphgoaaDoorE32
import Derived.Test.YtjhhgpencphgoaaDoorRows
import Derived.Test.YtjhhgpencphgoaaDoorCards
import Derived.Test.YtjhhgpencphgoaaDoorTie
import Derived.SevenTiedAt
import Derived.LaidLaws
import Derived.Stop.LaidErr
set_option linter.unusedSimpArgs false
set_option linter.unusedVariables false
namespace Go.Proofs.Tryd
open Go.Eng

theorem bits_or_comm (k : IntKind) (x y : Int) : bits .or k x y = bits .or k y x := by
  show k.wrap ((BitVec.ofInt k.bits x ||| BitVec.ofInt k.bits y).toNat : Int) = k.wrap ((BitVec.ofInt k.bits y ||| BitVec.ofInt k.bits x).toNat : Int)
  rw [BitVec.or_comm]
theorem bits_xor_comm (k : IntKind) (x y : Int) : bits .xor k x y = bits .xor k y x := by
  show k.wrap ((BitVec.ofInt k.bits x ^^^ BitVec.ofInt k.bits y).toNat : Int) = k.wrap ((BitVec.ofInt k.bits y ^^^ BitVec.ofInt k.bits x).toNat : Int)
  rw [BitVec.xor_comm]
theorem get_arr {n : Nat} {β : Type} (x : Arr n) {j : Int} {f : Int → Option β} (h0 : 0 ≤ j) (h : j < n) : get? x.l j f = f (x.l.getD j.toNat 0) := by
  have h' : j.toNat < x.l.length := by rw [x.len]; omega
  rw [get_int h0 h', List.getD_eq_getElem?_getD, List.getElem?_eq_getElem h']; rfl
theorem get_0 {α β : Type} {a : α} {l : List α} {f : α → Option β} : get? (a :: l) 0 f = f a := rfl
theorem get_1 {α β : Type} {a b : α} {l : List α} {f : α → Option β} : get? (a :: b :: l) 1 f = f b := rfl
theorem get_2 {α β : Type} {a b c : α} {l : List α} {f : α → Option β} : get? (a :: b :: c :: l) 2 f = f c := rfl
theorem get_3 {α β : Type} {a b c d : α} {l : List α} {f : α → Option β} : get? (a :: b :: c :: d :: l) 3 f = f d := rfl
theorem get_4 {α β : Type} {a b c d e : α} {l : List α} {f : α → Option β} : get? (a :: b :: c :: d :: e :: l) 4 f = f e := rfl
theorem get_5 {α β : Type} {a b c d e g : α} {l : List α} {f : α → Option β} : get? (a :: b :: c :: d :: e :: g :: l) 5 f = f g := rfl
theorem get_6 {α β : Type} {a b c d e g h : α} {l : List α} {f : α → Option β} : get? (a :: b :: c :: d :: e :: g :: h :: l) 6 f = f h := rfl
theorem get_7 {α β : Type} {a b c d e g h i : α} {l : List α} {f : α → Option β} : get? (a :: b :: c :: d :: e :: g :: h :: i :: l) 7 f = f i := rfl
theorem set_set {n : Nat} (x : Arr n) (i : Nat) (a b : Int) : (x.set i a).set i b = x.set i b := Arr.ext (by rw [Arr.l_set, Arr.l_set, Arr.l_set, List.set_set])
theorem getD_set {n : Nat} (x : Arr n) (i : Nat) (a : Int) (h : i < n) : (x.set i a).l.getD i 0 = a := by
  rw [Arr.l_set, List.getD_eq_getElem?_getD, List.getElem?_set_self (by rw [x.len]; exact h)]; rfl
theorem getD_set_ne {n : Nat} (x : Arr n) (i j : Nat) (a : Int) (h : i ≠ j) : (x.set i a).l.getD j 0 = x.l.getD j 0 := by
  rw [Arr.l_set, List.getD_eq_getElem?_getD, List.getElem?_set_ne h, List.getD_eq_getElem?_getD]

theorem getD_rep (j n : Nat) : (List.replicate n (0 : Int)).getD j 0 = 0 := by
  rw [List.getD_eq_getElem?_getD, List.getElem?_replicate]
  split <;> rfl

/-- All are bytes. -/
def Byt (l : List Int) : Prop := ∀ x ∈ l, 0 ≤ x ∧ x < 256

def ror (x n : Int) : Int := bits .or .u32 (x / 2 ^ n.toNat) (IntKind.wrap .u32 (x * 2 ^ (32 - n).toNat))
theorem rotr_eq (N : Nat) (x n : Int) (h0 : 0 ≤ n) (h1 : n ≤ 32) : F_ref02_rotr N x n = some (ror x n) := by
  have e : (IntKind.bits .u32 : Int) = 32 := rfl
  unfold F_ref02_rotr ror
  rw [gd_of h0, gd_of (by omega), ck_of (by omega) (by omega), gd_of (by omega), gd_of (by omega)]
theorem rotl_eq (N : Nat) (x n : Int) (h : bits .and .u64 (IntKind.wrap .u64 (-n)) 31 = 32 - n) (h0 : 0 ≤ n) (h1 : n ≤ 32) (hw : IntKind.wrap .u64 (32 - (32 - n)) = n) : F_bits_RotateLeft32 N x (-n) = some (ror x n) := by
  have e : (IntKind.bits .u32 : Int) = 32 := rfl
  unfold F_bits_RotateLeft32 ror
  rw [h, hw, gd_of (by omega), gd_of (by omega), gd_of h0, gd_of (by omega), bits_or_comm]
theorem rl_6 (N : Nat) (x : Int) : F_bits_RotateLeft32 N x (-6) = some (ror x 6) := rotl_eq N x 6 (by decide +kernel) (by decide) (by decide) (by decide +kernel)
theorem rl_11 (N : Nat) (x : Int) : F_bits_RotateLeft32 N x (-11) = some (ror x 11) := rotl_eq N x 11 (by decide +kernel) (by decide) (by decide) (by decide +kernel)
theorem rl_25 (N : Nat) (x : Int) : F_bits_RotateLeft32 N x (-25) = some (ror x 25) := rotl_eq N x 25 (by decide +kernel) (by decide) (by decide) (by decide +kernel)
theorem rl_2 (N : Nat) (x : Int) : F_bits_RotateLeft32 N x (-2) = some (ror x 2) := rotl_eq N x 2 (by decide +kernel) (by decide) (by decide) (by decide +kernel)
theorem rl_13 (N : Nat) (x : Int) : F_bits_RotateLeft32 N x (-13) = some (ror x 13) := rotl_eq N x 13 (by decide +kernel) (by decide) (by decide) (by decide +kernel)
theorem rl_22 (N : Nat) (x : Int) : F_bits_RotateLeft32 N x (-22) = some (ror x 22) := rotl_eq N x 22 (by decide +kernel) (by decide) (by decide) (by decide +kernel)
theorem rl_7 (N : Nat) (x : Int) : F_bits_RotateLeft32 N x (-7) = some (ror x 7) := rotl_eq N x 7 (by decide +kernel) (by decide) (by decide) (by decide +kernel)
theorem rl_18 (N : Nat) (x : Int) : F_bits_RotateLeft32 N x (-18) = some (ror x 18) := rotl_eq N x 18 (by decide +kernel) (by decide) (by decide) (by decide +kernel)
theorem rl_17 (N : Nat) (x : Int) : F_bits_RotateLeft32 N x (-17) = some (ror x 17) := rotl_eq N x 17 (by decide +kernel) (by decide) (by decide) (by decide +kernel)
theorem rl_19 (N : Nat) (x : Int) : F_bits_RotateLeft32 N x (-19) = some (ror x 19) := rotl_eq N x 19 (by decide +kernel) (by decide) (by decide) (by decide +kernel)
theorem rr_6 (N : Nat) (x : Int) : F_ref02_rotr N x 6 = some (ror x 6) := rotr_eq N x 6 (by decide) (by decide)
theorem rr_11 (N : Nat) (x : Int) : F_ref02_rotr N x 11 = some (ror x 11) := rotr_eq N x 11 (by decide) (by decide)
theorem rr_25 (N : Nat) (x : Int) : F_ref02_rotr N x 25 = some (ror x 25) := rotr_eq N x 25 (by decide) (by decide)
theorem rr_2 (N : Nat) (x : Int) : F_ref02_rotr N x 2 = some (ror x 2) := rotr_eq N x 2 (by decide) (by decide)
theorem rr_13 (N : Nat) (x : Int) : F_ref02_rotr N x 13 = some (ror x 13) := rotr_eq N x 13 (by decide) (by decide)
theorem rr_22 (N : Nat) (x : Int) : F_ref02_rotr N x 22 = some (ror x 22) := rotr_eq N x 22 (by decide) (by decide)
theorem rr_7 (N : Nat) (x : Int) : F_ref02_rotr N x 7 = some (ror x 7) := rotr_eq N x 7 (by decide) (by decide)
theorem rr_18 (N : Nat) (x : Int) : F_ref02_rotr N x 18 = some (ror x 18) := rotr_eq N x 18 (by decide) (by decide)
theorem rr_17 (N : Nat) (x : Int) : F_ref02_rotr N x 17 = some (ror x 17) := rotr_eq N x 17 (by decide) (by decide)
theorem rr_19 (N : Nat) (x : Int) : F_ref02_rotr N x 19 = some (ror x 19) := rotr_eq N x 19 (by decide) (by decide)
theorem mix_1 (N : Nat) (x : Int) : F_hash_mix N x 6 11 25 = some (bits .xor .u32 (bits .xor .u32 (ror x 6) (ror x 11)) (ror x 25)) := by
  unfold F_hash_mix
  rw [rl_6, rl_11, rl_25]; rfl
theorem mix_2 (N : Nat) (x : Int) : F_hash_mix N x 2 13 22 = some (bits .xor .u32 (bits .xor .u32 (ror x 2) (ror x 13)) (ror x 22)) := by
  unfold F_hash_mix
  rw [rl_2, rl_13, rl_22]; rfl

theorem sched_hi (N : Nat) (p : List Int) (a2 : Arr 64) : ∀ (k t m m' : Nat) (w : Arr 64), t + k = 64 → 16 ≤ t → k < m → k < m' → ∃ r, L_hash_schedule_0 N p m t a2 w = some r ∧ L_ref02_words_1 N m' t w = some r
  | k, t, 0, m', w, _, _, h, _ => by omega
  | k, t, m + 1, 0, w, _, _, _, h => by omega
  | 0, t, m + 1, m' + 1, w, h, h1, _, _ => by
    rw [L_hash_schedule_0, L_ref02_words_1, show decide ((t : Int) < 64) = false by rw [decide_eq_false_iff_not]; omega]
    exact ⟨_, rfl, rfl⟩
  | k + 1, t, m + 1, m' + 1, w, h, h1, hm, hm' => by
    rw [L_hash_schedule_0, L_ref02_words_1, show decide ((t : Int) < 64) = true by rw [decide_eq_true_eq]; omega, show decide ((t : Int) < 16) = false by rw [decide_eq_false_iff_not]; omega]
    simp (disch := omega) only [if_true?, if_false?, ck_of, gd_of, get_arr, rl_7, rl_18, rl_17, rl_19, rr_7, rr_18, rr_17, rr_19, bd_some, cast_succ]
    exact sched_hi N p a2 k (t + 1) m m' _ (by omega) (by omega) (by omega) (by omega)
/-- A word of four bytes, as the program and as the specification compute it. -/
theorem word_eq {a b c d : Int} (ha : 0 ≤ a ∧ a < 256) (hb : 0 ≤ b ∧ b < 256) (hc : 0 ≤ c ∧ c < 256) (hd : 0 ≤ d ∧ d < 256) :
    bits .or .u32 (IntKind.wrap .u32 (bits .or .u32 (IntKind.wrap .u32 (bits .or .u32 (IntKind.wrap .u32 (bits .or .u32 (IntKind.wrap .u32 (0 * 2 ^ (8 : Int).toNat)) (IntKind.wrap .u32 a) * 2 ^ (8 : Int).toNat)) (IntKind.wrap .u32 b) * 2 ^ (8 : Int).toNat)) (IntKind.wrap .u32 c) * 2 ^ (8 : Int).toNat)) (IntKind.wrap .u32 d)
    = bits .or .u32 (bits .or .u32 (bits .or .u32 (IntKind.wrap .u32 (IntKind.wrap .u32 a * 2 ^ (24 : Int).toNat)) (IntKind.wrap .u32 (IntKind.wrap .u32 b * 2 ^ (16 : Int).toNat))) (IntKind.wrap .u32 (IntKind.wrap .u32 c * 2 ^ (8 : Int).toNat))) (IntKind.wrap .u32 d) := by
  have e8 : (2 : Int) ^ (8 : Int).toNat = 256 := rfl
  have e16 : (2 : Int) ^ (16 : Int).toNat = 65536 := rfl
  have e24 : (2 : Int) ^ (24 : Int).toNat = 16777216 := rfl
  have w : ∀ x : Int, 0 ≤ x → x < 4294967296 → IntKind.wrap .u32 x = x := fun x h h' => Go.u32_wrap_id x h h'
  rw [e8, e16, e24, w a (by omega) (by omega), w b (by omega) (by omega), w c (by omega) (by omega), w d (by omega) (by omega), w (0 * 256) (by omega) (by omega), w (a * 16777216) (by omega) (by omega), w (b * 65536) (by omega) (by omega), w (c * 256) (by omega) (by omega)]
  have j1 : bits .or .u32 (0 * 256) a = a := by rw [bits_or_comm, Go.u32_or8 _ _ (by omega) (by omega) (by omega) (by omega) (by omega)]; omega
  rw [j1, w (a * 256) (by omega) (by omega)]
  have j2 : bits .or .u32 (a * 256) b = a * 256 + b := by rw [bits_or_comm, Go.u32_or8 _ _ (by omega) (by omega) (by omega) (by omega) (by omega)]; omega
  rw [j2, w ((a * 256 + b) * 256) (by omega) (by omega)]
  have j3 : bits .or .u32 ((a * 256 + b) * 256) c = (a * 256 + b) * 256 + c := by rw [bits_or_comm, Go.u32_or8 _ _ (by omega) (by omega) (by omega) (by omega) (by omega)]; omega
  rw [j3, w (((a * 256 + b) * 256 + c) * 256) (by omega) (by omega)]
  have j4 : bits .or .u32 (((a * 256 + b) * 256 + c) * 256) d = ((a * 256 + b) * 256 + c) * 256 + d := by rw [bits_or_comm, Go.u32_or8 _ _ (by omega) (by omega) (by omega) (by omega) (by omega)]; omega
  have i1 : bits .or .u32 (a * 16777216) (b * 65536) = a * 16777216 + b * 65536 := by rw [bits_or_comm, Go.u32_or24 _ _ (by omega) (by omega) (by omega) (by omega) (by omega)]; omega
  have i2 : bits .or .u32 (a * 16777216 + b * 65536) (c * 256) = a * 16777216 + b * 65536 + c * 256 := by rw [bits_or_comm, Go.u32_or16 _ _ (by omega) (by omega) (by omega) (by omega) (by omega)]; omega
  have i3 : bits .or .u32 (a * 16777216 + b * 65536 + c * 256) d = a * 16777216 + b * 65536 + c * 256 + d := by rw [bits_or_comm, Go.u32_or8 _ _ (by omega) (by omega) (by omega) (by omega) (by omega)]; omega
  rw [j4, i1, i2, i3]; omega
theorem four {p : List Int} {i : Nat} (h : i + 4 ≤ p.length) : ∃ a b c d r, p.drop i = a :: b :: c :: d :: r := by
  match hp : p.drop i with
  | [] => have := congrArg List.length hp; simp at this; omega
  | [_] => have := congrArg List.length hp; simp at this; omega
  | [_, _] => have := congrArg List.length hp; simp at this; omega
  | [_, _, _] => have := congrArg List.length hp; simp at this; omega
  | a :: b :: c :: d :: r => exact ⟨a, b, c, d, r, rfl⟩
theorem drop_get {β : Type} {p : List Int} {i : Nat} {x : Int} {r : List Int} {f : Int → Option β} (h : p.drop i = x :: r) (j : Int) (hj : j = (i : Int)) : get? p j f = f x := by
  subst hj
  unfold get?
  have : p[i]? = some x := by rw [← drop_get0, h]; rfl
  rw [if_pos (by omega), Int.toNat_natCast, this]
theorem drop_tl {p : List Int} {i : Nat} {x : Int} {r : List Int} (h : p.drop i = x :: r) : p.drop (i + 1) = r := by
  rw [← List.drop_drop, h]; rfl
/-- One word: the inner loop of the program. -/
theorem sched_in (N : Nat) (k0 : Int → Arr 64 → Arr 64 → Option (Arr 64)) (p : List Int) (t : Nat) (a2 w : Arr 64) (a b c d : Int) (r : List Int) (ht : t < 16) (hr : p.drop (4 * t) = a :: b :: c :: d :: r) (h0 : w.l.getD t 0 = 0) (m : Nat) :
    L_hash_schedule_1 N k0 p t a2 (m + 5) 0 w = k0 ((t : Int) + 1) a2 (w.set t (bits .or .u32 (IntKind.wrap .u32 (bits .or .u32 (IntKind.wrap .u32 (bits .or .u32 (IntKind.wrap .u32 (bits .or .u32 (IntKind.wrap .u32 (0 * 2 ^ (8 : Int).toNat)) (IntKind.wrap .u32 a) * 2 ^ (8 : Int).toNat)) (IntKind.wrap .u32 b) * 2 ^ (8 : Int).toNat)) (IntKind.wrap .u32 c) * 2 ^ (8 : Int).toNat)) (IntKind.wrap .u32 d))) := by
  have hq : (p.drop (4 * (t : Int)).toNat).take (((4 * (t : Int)) + 4).toNat - (4 * (t : Int)).toNat) = [a, b, c, d] := by
    rw [show (4 * (t : Int)).toNat = 4 * t by omega, show ((4 * (t : Int)) + 4).toNat - 4 * t = 4 by omega, hr]; rfl
  have n1 : (0 : Int) + 1 = 1 := rfl
  have n2 : (1 : Int) + 1 = 2 := rfl
  have n3 : (2 : Int) + 1 = 3 := rfl
  have n4 : (3 : Int) + 1 = 4 := rfl
  have l4 : ([a, b, c, d].length : Int) = 4 := rfl
  have d0 : decide ((0 : Int) < 4) = true := rfl
  have d1 : decide ((1 : Int) < 4) = true := rfl
  have d2 : decide ((2 : Int) < 4) = true := rfl
  have d3 : decide ((3 : Int) < 4) = true := rfl
  have d4 : decide ((4 : Int) < 4) = false := rfl
  have tn : ((t : Int)).toNat = t := Int.toNat_natCast t
  simp (disch := omega) only [L_hash_schedule_1, hq, l4, d0, d1, d2, d3, d4, if_true?, if_false?, n1, n2, n3, n4, get_0, get_1, get_2, get_3, gd_of, ck_of, get_arr, tn, getD_set, set_set, h0]
theorem sched_lo (N : Nat) (p : List Int) (hp : p.length = 64) (hB : Byt p) (hN : 70 ≤ N) (a2 : Arr 64) : ∀ (k t m m' : Nat) (w : Arr 64), t + k = 16 → 64 ≤ m + t → k < m' → 64 < m + t → (∀ j, t ≤ j → w.l.getD j 0 = 0) → ∃ r, L_hash_schedule_0 N p m t a2 w = some r ∧ L_ref02_words_0 N p m' t w = some r
  | k, t, 0, m', w, _, _, _, h, _ => by omega
  | k, t, m + 1, 0, w, _, _, h, _, _ => by omega
  | 0, t, m + 1, m' + 1, w, h, _, _, h2, _ => by
    obtain rfl : t = 16 := by omega
    rw [L_ref02_words_0, show decide (((16 : Nat) : Int) < 16) = false from rfl, if_false?]
    exact sched_hi N p a2 48 16 (m + 1) N w (by omega) (by omega) (by omega) (by omega)
  | k + 1, t, m + 1, m' + 1, w, h, h3, hm', h2, hz => by
    obtain ⟨a, b, c, d, r, hr⟩ := four (p := p) (i := 4 * t) (by omega)
    have m1 : ∀ x, x ∈ p.drop (4 * t) → 0 ≤ x ∧ x < 256 := fun x hx => hB x (List.mem_of_mem_drop hx)
    rw [hr] at m1
    have ha := m1 a (by simp)
    have hb := m1 b (by simp)
    have hc := m1 c (by simp)
    have hd := m1 d (by simp)
    have hr1 := drop_tl hr
    have hr2 := drop_tl hr1
    have hr3 := drop_tl hr2
    obtain ⟨n, rfl⟩ : ∃ n, N = n + 5 := ⟨N - 5, by omega⟩
    rw [L_hash_schedule_0, L_ref02_words_0, show decide ((t : Int) < 64) = true by rw [decide_eq_true_eq]; omega, show decide ((t : Int) < 16) = true by rw [decide_eq_true_eq]; omega]
    rw [drop_get hr (4 * (t : Int)) (by omega), drop_get hr1 (4 * (t : Int) + 1) (by omega), drop_get hr2 (4 * (t : Int) + 2) (by omega), drop_get hr3 (4 * (t : Int) + 3) (by omega)]
    simp (disch := omega) only [if_true?, ck_of, gd_of]
    rw [sched_in (n + 5) _ p t a2 w a b c d r (by omega) hr (hz t (Nat.le_refl t)) n, word_eq ha hb hc hd, cast_succ, Int.toNat_natCast]
    exact sched_lo (n + 5) p hp hB hN a2 k (t + 1) m m' _ (by omega) (by omega) (by omega) (by omega) (fun j hj => by rw [getD_set_ne _ _ _ _ (by omega)]; exact hz j (by omega))
theorem words_eq (N : Nat) (p : List Int) (hp : p.length = 64) (hB : Byt p) (hN : 70 ≤ N) : ∃ r, F_hash_schedule N p = some r ∧ F_ref02_words N p = some r := by
  obtain ⟨r, h1, h2⟩ := sched_lo N p hp hB hN (Arr.zero 64) 16 0 N N (Arr.zero 64) (by omega) (by omega) (by omega) (by omega) (fun j _ => by rw [Arr.l_zero]; exact getD_rep j 64)
  exact ⟨r, h1, h2⟩
end Go.Proofs.Tryd
namespace Go.Proofs.Tryd
open Go.Eng

def j8 (a b : Arr 4) : Arr 8 := ⟨a.l ++ b.l, by rw [List.length_append, a.len, b.len]⟩
theorem arr4 (x : Arr 4) : ∃ a b c d, x = Arr.of [a, b, c, d] rfl := by
  obtain ⟨l, h⟩ := x
  match l, h with
  | [a, b, c, d], h => exact ⟨a, b, c, d, rfl⟩
theorem arr8 (x : Arr 8) : ∃ a b c d e f g h, x = Arr.of [a, b, c, d, e, f, g, h] rfl := by
  obtain ⟨l, h⟩ := x
  match l, h with
  | [a, b, c, d, e, f, g, h], _ => exact ⟨a, b, c, d, e, f, g, h, rfl⟩
theorem j8_of (a b c d e f g h : Int) : (Arr.of [a, b, c, d, e, f, g, h] rfl : Arr 8) = j8 (Arr.of [a, b, c, d] rfl) (Arr.of [e, f, g, h] rfl) := rfl
theorem rounds (N : Nat) (p0 : Arr 8) (w : Arr 64) (k0 : Int → Arr 32 → Arr 8 → List Int → Option (Arr 32)) (a2 : Int) (c3 : Arr 32) (s : Arr 8) (c5 : List Int) : ∀ (k t m m' : Nat) (x y : Arr 4), t + k = 64 → k < m → k < m' →
    ∃ x' y', L_hash_compress_0 N p0 w m t x y = L_hash_compress_1 N x' y' N 0 p0 ∧ L_ref02_Sum_1 N k0 a2 c3 s c5 w m' t (j8 x y) = L_ref02_Sum_2 N k0 a2 c3 c5 (j8 x' y') N 0 s
  | k, t, 0, m', x, y, _, h, _ => by omega
  | k, t, m + 1, 0, x, y, _, _, h => by omega
  | 0, t, m + 1, m' + 1, x, y, h, _, _ => by
    refine ⟨x, y, ?_, ?_⟩
    · rw [L_hash_compress_0, show decide ((t : Int) < 64) = false by rw [decide_eq_false_iff_not]; omega]; rfl
    · rw [L_ref02_Sum_1, show decide ((t : Int) < 64) = false by rw [decide_eq_false_iff_not]; omega]; rfl
  | k + 1, t, m + 1, m' + 1, x, y, h, hm, hm' => by
    obtain ⟨v0, v1, v2, v3, rfl⟩ := arr4 x
    obtain ⟨e0, e1, e2, e3, rfl⟩ := arr4 y
    have hx : bits .xor .u32 4294967295 e0 = bits .xor .u32 e0 4294967295 := bits_xor_comm _ _ _
    rw [L_hash_compress_0, ← j8_of, L_ref02_Sum_1, show decide ((t : Int) < 64) = true by rw [decide_eq_true_eq]; omega]
    simp (disch := omega) only [if_true?, gd_of, get_arr gA3, get_arr gA4, get_arr w, Arr.l_of, get_0, get_1, get_2, get_3, get_4, get_5, get_6, get_7, mix_1, mix_2, rr_6, rr_11, rr_25, rr_2, rr_13, rr_22, bd_some, ck_of, cast_succ, ← gl_same, hx]
    rw [j8_of]
    exact rounds N p0 w k0 a2 c3 s c5 k (t + 1) m m' _ _ (by omega) (by omega) (by omega)

/-- The state, and what was added. -/
def addA (s : Arr 8) (v : Arr 8) : Arr 8 := ⟨List.zipWith (fun a b => IntKind.wrap .u32 (a + b)) s.l v.l, by rw [List.length_zipWith, s.len, v.len]; rfl⟩
theorem add_1 (N n : Nat) (x y : Arr 4) (s : Arr 8) : L_hash_compress_1 N x y (n + 5) 0 s = some (addA s (j8 x y)) := by
  obtain ⟨v0, v1, v2, v3, rfl⟩ := arr4 x
  obtain ⟨e0, e1, e2, e3, rfl⟩ := arr4 y
  obtain ⟨a, b, c, d, e, f, g, h, rfl⟩ := arr8 s
  rfl
theorem add_2 (N n : Nat) (k0 : Int → Arr 32 → Arr 8 → List Int → Option (Arr 32)) (a2 : Int) (c3 : Arr 32) (c5 : List Int) (v s : Arr 8) : L_ref02_Sum_2 N k0 a2 c3 c5 v (n + 9) 0 s = k0 (a2 + 64) c3 (addA s v) c5 := by
  obtain ⟨v0, v1, v2, v3, v4, v5, v6, v7, rfl⟩ := arr8 v
  obtain ⟨a, b, c, d, e, f, g, h, rfl⟩ := arr8 s
  rfl

theorem comp_ex (N : Nat) (hN : 70 ≤ N) (s : Arr 8) (b : List Int) (hb : b.length = 64) (hB : Byt b) : ∃ r, F_hash_compress N s b = some r ∧ ∀ k0 a2 a3 a5, (bd? (F_ref02_words N b) fun v6 => L_ref02_Sum_1 N k0 a2 a3 s a5 v6 N 0 s) = k0 (a2 + 64) a3 r a5 := by
  obtain ⟨w, h1, h2⟩ := words_eq N b hb hB hN
  obtain ⟨n, rfl⟩ : ∃ n, N = n + 9 := ⟨N - 9, by omega⟩
  have hj : j8 (s.part 0 4) (s.part 4 4) = s := by
    obtain ⟨a, b, c, d, e, f, g, h, rfl⟩ := arr8 s
    rfl
  obtain ⟨x', y', hh, hh1⟩ := rounds (n + 9) s w (fun _ _ _ _ => none) 0 (Arr.zero 32) s [] 64 0 (n + 9) (n + 9) (s.part 0 4) (s.part 4 4) (by omega) (by omega) (by omega)
  have hh : L_hash_compress_0 (n + 9) s w (n + 9) 0 (s.part 0 4) (s.part 4 4) = L_hash_compress_1 (n + 9) x' y' (n + 9) 0 s := hh
  refine ⟨addA s (j8 x' y'), ?_, ?_⟩
  · unfold F_hash_compress
    rw [h1, bd_some, hh]
    exact add_1 (n + 9) (n + 4) x' y' s
  · intro k0 a2 a3 a5
    rw [h2, bd_some]
    obtain ⟨x2, y2, g, g1⟩ := rounds (n + 9) s w k0 a2 a3 s a5 64 0 (n + 9) (n + 9) (s.part 0 4) (s.part 4 4) (by omega) (by omega) (by omega)
    have g : L_hash_compress_0 (n + 9) s w (n + 9) 0 (s.part 0 4) (s.part 4 4) = L_hash_compress_1 (n + 9) x2 y2 (n + 9) 0 s := g
    rw [hj] at g1
    have g1 : L_ref02_Sum_1 (n + 9) k0 a2 a3 s a5 w (n + 9) 0 s = L_ref02_Sum_2 (n + 9) k0 a2 a3 a5 (j8 x2 y2) (n + 9) 0 s := g1
    rw [g1, add_2 (n + 9) n]
    have e := hh.symm.trans g
    rw [show (n + 9) = (n + 4) + 5 from rfl, add_1, add_1, Option.some.injEq] at e
    rw [e]

/-- The state behind a block. -/
def comp (N : Nat) (s : Arr 8) (b : List Int) : Arr 8 := (F_hash_compress N s b).getD default
theorem comp_1 (N : Nat) (hN : 70 ≤ N) (s : Arr 8) (b : List Int) (hb : b.length = 64) (hB : Byt b) : F_hash_compress N s b = some (comp N s b) := by
  obtain ⟨r, h, _⟩ := comp_ex N hN s b hb hB
  unfold comp
  rw [h]; rfl
theorem comp_2 (N : Nat) (hN : 70 ≤ N) (s : Arr 8) (b : List Int) (hb : b.length = 64) (hB : Byt b) (k0 : Int → Arr 32 → Arr 8 → List Int → Option (Arr 32)) (a2 : Int) (a3 : Arr 32) (a5 : List Int) : (bd? (F_ref02_words N b) fun v6 => L_ref02_Sum_1 N k0 a2 a3 s a5 v6 N 0 s) = k0 (a2 + 64) a3 (comp N s b) a5 := by
  obtain ⟨r, h, h'⟩ := comp_ex N hN s b hb hB
  have e : comp N s b = r := by unfold comp; rw [h]; rfl
  rw [h', e]

def foldB (N : Nat) : Nat → Arr 8 → List Int → Arr 8
  | 0, s, _ => s
  | k + 1, s, l => foldB N k (comp N s (l.take 64)) (l.drop 64)
theorem foldB_succ (N : Nat) : ∀ (k : Nat) (s : Arr 8) (l : List Int), foldB N (k + 1) s l = comp N (foldB N k s l) ((l.drop (64 * k)).take 64)
  | 0, s, l => rfl
  | k + 1, s, l => by
    rw [foldB, foldB_succ N k, foldB, List.drop_drop, show 64 + 64 * k = 64 * (k + 1) by omega]
theorem foldB_app (N : Nat) : ∀ (k : Nat) (s : Arr 8) (l m : List Int), 64 * k ≤ l.length → foldB N k s (l ++ m) = foldB N k s l
  | 0, s, l, m, _ => rfl
  | k + 1, s, l, m, h => by
    rw [foldB, foldB, List.take_append_of_le_length (by omega), List.drop_append_of_le_length (by omega)]
    exact foldB_app N k _ _ _ (by rw [List.length_drop]; omega)
theorem byt_take {l : List Int} (h : Byt l) (n : Nat) : Byt (l.take n) := fun x hx => h x (List.mem_of_mem_take hx)
theorem byt_drop {l : List Int} (h : Byt l) (n : Nat) : Byt (l.drop n) := fun x hx => h x (List.mem_of_mem_drop hx)
theorem byt_app {l m : List Int} (h : Byt l) (h' : Byt m) : Byt (l ++ m) := fun x hx => (List.mem_append.1 hx).elim (h x) (h' x)
theorem ref_blocks (N : Nat) (hN : 70 ≤ N) (a3 : Arr 32) (msg : List Int) (hB : Byt msg) (hl : msg.length < 1099511627776) : ∀ (k i m : Nat) (s : Arr 8), msg.length = 64 * (i + k) → k < m →
    L_ref02_Sum_0 N m ((64 * i : Nat) : Int) a3 s msg = L_ref02_Sum_3 N (foldB N k s (msg.drop (64 * i))) N 0 (Arr.zero 32)
  | k, i, 0, s, _, h => by omega
  | 0, i, m + 1, s, h, _ => by
    rw [L_ref02_Sum_0, show decide (((64 * i : Nat) : Int) < (msg.length : Int)) = false by rw [decide_eq_false_iff_not]; omega]; rfl
  | k + 1, i, m + 1, s, h, hm => by
    rw [L_ref02_Sum_0, show decide (((64 * i : Nat) : Int) < (msg.length : Int)) = true by rw [decide_eq_true_eq]; omega]
    simp (disch := omega) only [if_true?, ck_of, gd_of]
    rw [show (((64 * i : Nat) : Int) + 64).toNat - ((64 * i : Nat) : Int).toNat = 64 by omega, Int.toNat_natCast]
    rw [comp_2 N hN s _ (by rw [List.length_take, List.length_drop]; omega) (byt_take (byt_drop hB _) _), show ((64 * i : Nat) : Int) + 64 = ((64 * (i + 1) : Nat) : Int) by omega, ref_blocks N hN a3 msg hB hl k (i + 1) m _ (by omega) (by omega), foldB, List.drop_drop]
    rfl
end Go.Proofs.Tryd
namespace Go.Proofs.Tryd
open Go.Eng

theorem byt_ints (t : Str) : Byt (intsS t) := by
  intro x hx
  obtain ⟨c, _, rfl⟩ := List.mem_map.1 hx
  have := c.toNat_lt
  omega
theorem ints_bytes {l : List Int} (h : Byt l) : intsS (bytesI l) = l := by
  induction l with
  | nil => rfl
  | cons x l ih =>
    have hx := h x (by simp)
    have : intsS (bytesI (x :: l)) = ((UInt8.ofNat x.toNat).toNat : Int) :: intsS (bytesI l) := rfl
    rw [this, ih fun y hy => h y (by simp [hy])]
    congr 1
    rw [UInt8.toNat_ofNat']
    omega
theorem bytesI_len {l : List Int} : (bytesI l).length = l.length := List.length_map _
theorem ints_take (t : Str) (n : Nat) : (intsS t).take n = intsS (t.take n) := (List.map_take).symm
theorem ints_app (t u : Str) : intsS (t ++ u) = intsS t ++ intsS u := List.map_append
theorem w64 {x : Int} (h : 0 ≤ x) (h' : x < 18446744073709551616) : IntKind.wrap .u64 x = x := Go.u64_wrap_id x h h'
theorem w8 {x : Int} (h : 0 ≤ x) (h' : x < 256) : IntKind.wrap .u8 x = x := by
  have : IntKind.wrap .u8 x = x % 256 := by simp [IntKind.wrap, IntKind.bits, IntKind.signed]
  rw [this]; omega

def h0 : Arr 8 := Arr.of [1779033703, 3144134277, 1013904242, 2773480762, 1359893119, 2600822924, 528734635, 1541459225] rfl
/-- What a stream has been given. -/
structure Rep (N : Nat) (st : HashStream) (msg : List Int) : Prop where
  n : st.n = (msg.length : Int)
  state : st.state = foldB N (msg.length / 64) h0 msg
  tail : st.block.l.take (msg.length % 64) = msg.drop (64 * (msg.length / 64))
  byt : Byt msg

theorem add_step (N m : Nat) (a1 : Str) (s : Arr 8) (b : Arr 64) (n : Nat) (h : a1 ≠ []) (hn : n < 1099511627776) (ha : a1.length < 1099511627776) :
    L_hash_Stream_Add_0 N (m + 1) a1 s b n = if n % 64 + min a1.length (64 - n % 64) = 64 then bd? (F_hash_compress N s (b.put (n % 64) ((intsS a1).take (min a1.length (64 - n % 64)))).l) (fun v => L_hash_Stream_Add_0 N m (a1.drop (min a1.length (64 - n % 64))) v (b.put (n % 64) ((intsS a1).take (min a1.length (64 - n % 64)))) ((n + min a1.length (64 - n % 64) : Nat) : Int)) else L_hash_Stream_Add_0 N m (a1.drop (min a1.length (64 - n % 64))) s (b.put (n % 64) ((intsS a1).take (min a1.length (64 - n % 64)))) ((n + min a1.length (64 - n % 64) : Nat) : Int) := by
  have e : Int.tmod (n : Int) 64 = ((n % 64 : Nat) : Int) := (Int.ofNat_tmod n 64).symm
  have hb : (a1 == ([] : Str)) = false := by cases a1 with
    | nil => exact absurd rfl h
    | cons x y => rfl
  rw [L_hash_Stream_Add_0, hb, if_false?, e, Int.toNat_natCast]
  generalize hA : n % 64 = A
  have hA' : A < 64 := by omega
  generalize hC : min a1.length (64 - A) = C
  have hC' : C ≤ a1.length := by omega
  have hC2 : A + C ≤ 64 := by omega
  have hd : (a1.drop C).take (a1.length - C) = a1.drop C := List.take_of_length_le (by rw [List.length_drop]; exact Nat.le_refl _)
  rw [Int.toNat_natCast, w64 (x := (C : Int)) (by omega) (by omega), w64 (x := (n : Int) + (C : Int)) (by omega) (by omega), hd, show ((n : Int) + (C : Int)) = ((n + C : Nat) : Int) by omega]
  simp (disch := omega) only [ck_of, gd_of]
  by_cases hq : A + C = 64
  · rw [if_pos hq, show ((A : Int) + (C : Int) == 64) = true by simp; omega, if_true?]
  · rw [if_neg hq, show ((A : Int) + (C : Int) == 64) = false by simp; omega, if_false?]
theorem add_rep (N : Nat) (hN : 70 ≤ N) : ∀ (m : Nat) (a1 : Str) (st : HashStream) (msg : List Int), Rep N st msg → (a1.length = 0 ∧ 1 ≤ m) ∨ (msg.length % 64 + a1.length) / 64 + 2 ≤ m → msg.length + a1.length < 1099511627776 → ∃ st', L_hash_Stream_Add_0 N m a1 st.state st.block st.n = some st' ∧ Rep N st' (msg ++ intsS a1)
  | 0, a1, st, msg, _, h, _ => by omega
  | m + 1, [], st, msg, hR, _, _ => by
    refine ⟨st, ?_, ?_⟩
    · rw [L_hash_Stream_Add_0]; rfl
    · show Rep N st (msg ++ [])
      rw [List.append_nil]; exact hR
  | m + 1, x :: a, st, msg, hR, h, hl => by
    have h : (msg.length % 64 + (x :: a).length) / 64 + 2 ≤ m + 1 := h.elim (fun h => by simp at h) id
    generalize hxa : x :: a = a1 at h hl ⊢
    have hne : a1 ≠ [] := by rw [← hxa]; exact List.cons_ne_nil _ _
    have hpos : 0 < a1.length := by rw [← hxa]; exact Nat.succ_pos _
    clear hxa
    rw [hR.n, add_step N m a1 st.state st.block msg.length hne (by omega) (by omega)]
    have hA' : msg.length % 64 < 64 := Nat.mod_lt _ (by omega)
    have htl := hR.tail
    have hst := hR.state
    have hdm := Nat.div_add_mod msg.length 64
    generalize hA : msg.length % 64 = A at *
    generalize hQ : msg.length / 64 = Q at *
    generalize hC : min a1.length (64 - A) = C
    have hC' : C ≤ a1.length := by omega
    have hC0 : 0 < C := by omega
    have hC2 : A + C ≤ 64 := by omega
    have hlt : ((intsS a1).take C).length = C := by rw [List.length_take, intsS_len]; omega
    have hput : (st.block.put A ((intsS a1).take C)).l = st.block.l.take A ++ (intsS a1).take C ++ st.block.l.drop (A + C) := by
      rw [Arr.l_put (by omega), hlt]
    have hsp : a1 = a1.take C ++ a1.drop C := (List.take_append_drop C a1).symm
    have hm2 : msg ++ intsS a1 = (msg ++ intsS (a1.take C)) ++ intsS (a1.drop C) := by
      rw [List.append_assoc, ← ints_app, List.take_append_drop]
    have hl2 : (msg ++ intsS (a1.take C)).length = msg.length + C := by
      rw [List.length_append, ← ints_take, hlt]
    have hB2 : Byt (msg ++ intsS (a1.take C)) := byt_app hR.byt (byt_ints _)
    rw [hm2]
    by_cases hq : A + C = 64
    · rw [if_pos hq]
      have hpl : (st.block.put A ((intsS a1).take C)).l = st.block.l.take A ++ (intsS a1).take C := by
        rw [hput, hq, List.drop_eq_nil_of_le (by rw [st.block.len]; exact Nat.le_refl _), List.append_nil]
      have hblk : (st.block.put A ((intsS a1).take C)).l = ((msg ++ intsS (a1.take C)).drop (64 * Q)).take 64 := by
        have h64 : (msg.drop (64 * Q) ++ intsS (a1.take C)).take 64 = msg.drop (64 * Q) ++ intsS (a1.take C) := List.take_of_length_le (by rw [List.length_append, List.length_drop, ← ints_take, hlt]; omega)
        rw [hpl, List.drop_append_of_le_length (by omega), htl, ints_take, h64]
      have hcomp := comp_1 N hN st.state (st.block.put A ((intsS a1).take C)).l (Arr.len _) (by rw [hblk]; exact byt_take (byt_drop hB2 _) _)
      rw [hcomp, bd_some]
      have hR' : Rep N (HashStream.mk (comp N st.state (st.block.put A ((intsS a1).take C)).l) (st.block.put A ((intsS a1).take C)) ((msg.length + C : Nat) : Int)) (msg ++ intsS (a1.take C)) := by
        refine ⟨?_, ?_, ?_, hB2⟩
        · rw [hl2]
        · rw [hl2, show (msg.length + C) / 64 = Q + 1 by omega, foldB_succ, foldB_app N Q h0 msg _ (by omega), ← hst, hblk]
        · rw [hl2, show (msg.length + C) % 64 = 0 by omega, show (msg.length + C) / 64 = Q + 1 by omega, List.take_zero, List.drop_eq_nil_of_le (by omega)]
      exact add_rep N hN m (a1.drop C) _ _ hR' (.inr (by rw [hl2, List.length_drop]; omega)) (by rw [hl2, List.length_drop]; omega)
    · rw [if_neg hq]
      have hR' : Rep N (HashStream.mk st.state (st.block.put A ((intsS a1).take C)) ((msg.length + C : Nat) : Int)) (msg ++ intsS (a1.take C)) := by
        refine ⟨?_, ?_, ?_, hB2⟩
        · rw [hl2]
        · rw [hl2, show (msg.length + C) / 64 = Q by omega, foldB_app N Q h0 msg _ (by omega), ← hst]
        · rw [hl2, show (msg.length + C) % 64 = A + C by omega, show (msg.length + C) / 64 = Q by omega, hput, List.drop_append_of_le_length (by omega), ← htl, ints_take]
          have hln : (st.block.l.take A ++ intsS (a1.take C)).length = A + C := by rw [List.length_append, List.length_take, st.block.len, ← ints_take, hlt]; omega
          rw [List.take_append_of_le_length (Nat.le_of_eq hln.symm), List.take_of_length_le (Nat.le_of_eq hln)]
      exact add_rep N hN m (a1.drop C) _ _ hR' (.inl (by rw [List.length_drop]; omega)) (by rw [hl2, List.length_drop]; omega)
theorem Add_rep (N : Nat) (hN : 70 ≤ N) (st : HashStream) (msg : List Int) (t : Str) (hR : Rep N st msg) (h : t.length / 64 + 3 ≤ N) (hl : msg.length + t.length < 1099511627776) : ∃ st', F_hash_Stream_Add N st t = some st' ∧ Rep N st' (msg ++ intsS t) :=
  add_rep N hN N t st msg hR (.inr (by omega)) hl

/-- The eight bytes of the length. -/
def lenB (n : Int) : List Int := [IntKind.wrap .u8 (n / 2 ^ (56 : Nat)), IntKind.wrap .u8 (n / 2 ^ (48 : Nat)), IntKind.wrap .u8 (n / 2 ^ (40 : Nat)), IntKind.wrap .u8 (n / 2 ^ (32 : Nat)), IntKind.wrap .u8 (n / 2 ^ (24 : Nat)), IntKind.wrap .u8 (n / 2 ^ (16 : Nat)), IntKind.wrap .u8 (n / 2 ^ (8 : Nat)), IntKind.wrap .u8 (n / 2 ^ (0 : Nat))]
theorem wrap_u8 (n : Int) : 0 ≤ IntKind.wrap .u8 n ∧ IntKind.wrap .u8 n < 256 := by
  have : IntKind.wrap .u8 n = n % 256 := by simp [IntKind.wrap, IntKind.bits, IntKind.signed]
  omega
theorem byt_lenB (n : Int) : Byt (lenB n) := by
  intro x hx
  simp only [lenB, List.mem_cons, List.not_mem_nil, or_false] at hx
  rcases hx with rfl | rfl | rfl | rfl | rfl | rfl | rfl | rfl <;> exact wrap_u8 _
theorem len_1 (N n : Nat) (st : HashStream) (a : List Int) (ha : a.length < 1099511627776) : L_hash_Stream_Sum_1 N st (n + 9) 0 a = (bd? (F_hash_Stream_Add N st (bytesI (a ++ lenB (IntKind.wrap .u64 (8 * st.n))))) fun v4 => L_hash_Stream_Sum_2 N v4 N 0 (Arr.zero 32)) := by
  generalize hz : IntKind.wrap .u64 (8 * st.n) = z
  have n1 : (0 : Int) + 1 = 1 := rfl
  have n2 : (1 : Int) + 1 = 2 := rfl
  have n3 : (2 : Int) + 1 = 3 := rfl
  have n4 : (3 : Int) + 1 = 4 := rfl
  have n5 : (4 : Int) + 1 = 5 := rfl
  have n6 : (5 : Int) + 1 = 6 := rfl
  have n7 : (6 : Int) + 1 = 7 := rfl
  have n8 : (7 : Int) + 1 = 8 := rfl
  have d0 : decide ((0 : Int) < 8) = true := rfl
  have d1 : decide ((1 : Int) < 8) = true := rfl
  have d2 : decide ((2 : Int) < 8) = true := rfl
  have d3 : decide ((3 : Int) < 8) = true := rfl
  have d4 : decide ((4 : Int) < 8) = true := rfl
  have d5 : decide ((5 : Int) < 8) = true := rfl
  have d6 : decide ((6 : Int) < 8) = true := rfl
  have d7 : decide ((7 : Int) < 8) = true := rfl
  have d8 : decide ((8 : Int) < 8) = false := rfl
  have eb : (IntKind.bits .u64 : Int) = 64 := rfl
  simp (disch := first | omega | (simp only [List.length_append, List.length_cons, List.length_nil]; omega)) only [L_hash_Stream_Sum_1, hz, n1, n2, n3, n4, n5, n6, n7, n8, d0, d1, d2, d3, d4, d5, d6, d7, d8, if_true?, if_false?, ck_of, eb, gd_of, List.append_assoc, List.cons_append, List.nil_append]
  rfl
theorem len_2 (N n : Nat) (p : List Int) (a : List Int) (ha : a.length < 1099511627776) : L_ref02_padded_1 N p (n + 9) 0 a = some (a ++ lenB (IntKind.wrap .u64 (8 * IntKind.wrap .u64 (p.length : Int)))) := by
  generalize hz : IntKind.wrap .u64 (8 * IntKind.wrap .u64 (p.length : Int)) = z
  have n1 : (0 : Int) + 1 = 1 := rfl
  have n2 : (1 : Int) + 1 = 2 := rfl
  have n3 : (2 : Int) + 1 = 3 := rfl
  have n4 : (3 : Int) + 1 = 4 := rfl
  have n5 : (4 : Int) + 1 = 5 := rfl
  have n6 : (5 : Int) + 1 = 6 := rfl
  have n7 : (6 : Int) + 1 = 7 := rfl
  have n8 : (7 : Int) + 1 = 8 := rfl
  have d0 : decide ((0 : Int) < 8) = true := rfl
  have d1 : decide ((1 : Int) < 8) = true := rfl
  have d2 : decide ((2 : Int) < 8) = true := rfl
  have d3 : decide ((3 : Int) < 8) = true := rfl
  have d4 : decide ((4 : Int) < 8) = true := rfl
  have d5 : decide ((5 : Int) < 8) = true := rfl
  have d6 : decide ((6 : Int) < 8) = true := rfl
  have d7 : decide ((7 : Int) < 8) = true := rfl
  have d8 : decide ((8 : Int) < 8) = false := rfl
  have eb : (IntKind.bits .u64 : Int) = 64 := rfl
  simp (disch := first | omega | (simp only [List.length_append, List.length_cons, List.length_nil]; omega)) only [L_ref02_padded_1, hz, n1, n2, n3, n4, n5, n6, n7, n8, d0, d1, d2, d3, d4, d5, d6, d7, d8, if_true?, if_false?, ck_of, eb, gd_of, List.append_assoc, List.cons_append, List.nil_append]
  rfl
/-- How many zeros come: both loops end with the same ones. -/
theorem pad_ex (N : Nat) (st : HashStream) (p : List Int) (hn : st.n = (p.length : Int)) (hl : p.length < 549755813888) : ∀ (k m m' : Nat) (a : List Int), (p.length + a.length + k) % 64 = 56 → k < 64 → k < m → k < m' → a.length + k < 549755813888 →
    ∃ z, (p.length + a.length + z) % 64 = 56 ∧ z ≤ k ∧ L_hash_Stream_Sum_0 N st m a = L_hash_Stream_Sum_1 N st N 0 (a ++ List.replicate z 0) ∧ L_ref02_padded_0 N p m' (p ++ a) = L_ref02_padded_1 N p N 0 (p ++ (a ++ List.replicate z 0))
  | k, 0, m', a, _, _, h, _, _ => by omega
  | k, m + 1, 0, a, _, _, _, h, _ => by omega
  | k, m + 1, m' + 1, a, h, hk, hm, hm', hal => by
    have e1 : Int.tmod ((p.length : Int) + (a.length : Int)) 64 = (((p.length + a.length) % 64 : Nat) : Int) := by
      rw [← Int.natCast_add]; exact (Int.ofNat_tmod _ 64).symm
    have e2 : Int.tmod (((p ++ a).length : Nat) : Int) 64 = (((p.length + a.length) % 64 : Nat) : Int) := by
      rw [List.length_append]; exact (Int.ofNat_tmod _ 64).symm
    rw [L_hash_Stream_Sum_0, L_ref02_padded_0, hn, e1, e2, ck_of (by omega) (by omega), ck_of (by omega) (by omega)]
    by_cases hz : (p.length + a.length) % 64 = 56
    · refine ⟨0, hz, Nat.zero_le _, ?_, ?_⟩
      · rw [show ((((p.length + a.length) % 64 : Nat) : Int) != 56) = false by simp; omega, if_false?]; simp
      · rw [show ((((p.length + a.length) % 64 : Nat) : Int) != 56) = false by simp; omega, if_false?]; simp
    · rw [show ((((p.length + a.length) % 64 : Nat) : Int) != 56) = true by simp; omega, if_true?, if_true?, gd_of (by simp only [List.length_cons, List.length_nil]; omega), gd_of (by simp only [List.length_append, List.length_cons, List.length_nil]; omega)]
      obtain ⟨k', rfl⟩ : ∃ k', k = k' + 1 := ⟨k - 1, by cases k with
        | zero => exact absurd h hz
        | succ k => rfl⟩
      obtain ⟨z, h1, h2, h3, h4⟩ := pad_ex N st p hn hl k' m m' (a ++ [0]) (by simp only [List.length_append, List.length_cons, List.length_nil]; omega) (by omega) (by omega) (by omega) (by simp only [List.length_append, List.length_cons, List.length_nil]; omega)
      simp only [List.length_append, List.length_cons, List.length_nil] at h1
      refine ⟨z + 1, by omega, by omega, ?_, ?_⟩
      · rw [h3, List.append_assoc, List.replicate_succ]; rfl
      · rw [List.append_assoc, h4, List.append_assoc, List.replicate_succ]; rfl

/-- The bytes of a state. -/
theorem out_eq (N : Nat) (v : HashStream) : ∀ (k t m m' : Nat) (w : Arr 32), t + k = 32 → k < m → k < m' → Byt w.l → ∃ r, L_hash_Stream_Sum_2 N v m t w = some r ∧ L_ref02_Sum_3 N v.state m' t w = some r ∧ Byt r.l
  | k, t, 0, m', w, _, h, _, _ => by omega
  | k, t, m + 1, 0, w, _, _, h, _ => by omega
  | 0, t, m + 1, m' + 1, w, h, _, _, hB => by
    rw [L_hash_Stream_Sum_2, L_ref02_Sum_3, show decide ((t : Int) < 32) = false by rw [decide_eq_false_iff_not]; omega]
    exact ⟨_, rfl, rfl, hB⟩
  | k + 1, t, m + 1, m' + 1, w, h, hm, hm', hB => by
    have e1 : Int.tdiv (t : Int) 4 = ((t / 4 : Nat) : Int) := (Int.ofNat_tdiv t 4).symm
    have e2 : Int.tmod (t : Int) 4 = ((t % 4 : Nat) : Int) := (Int.ofNat_tmod t 4).symm
    have eb : (IntKind.bits .u32 : Int) = 32 := rfl
    rw [L_hash_Stream_Sum_2, L_ref02_Sum_3, show decide ((t : Int) < 32) = true by rw [decide_eq_true_eq]; omega, e1, e2]
    simp (disch := omega) only [if_true?, ck_of, gd_of, eb, get_arr, cast_succ]
    refine out_eq N v k (t + 1) m m' _ (by omega) (by omega) (by omega) ?_
    intro x hx
    rw [Arr.l_set] at hx
    rcases List.mem_or_eq_of_mem_set hx with h | rfl
    · exact hB x h
    · exact wrap_u8 _
theorem Sum_eq (N : Nat) (hN : 100 ≤ N) (st : HashStream) (msg : List Int) (hR : Rep N st msg) (hl : msg.length / 64 + 4 ≤ N) (hl' : msg.length < 274877906944) : ∃ r, F_hash_Stream_Sum N st = some r ∧ F_ref02_Sum N msg = some r ∧ Byt r.l := by
  obtain ⟨n, rfl⟩ : ∃ n, N = n + 9 := ⟨N - 9, by omega⟩
  obtain ⟨z, h1, h2, h3, h4⟩ := pad_ex (n + 9) st msg hR.n (by omega) ((64 + 56 - (msg.length + 1) % 64) % 64) (n + 9) (n + 9) [128] (by show (msg.length + 1 + _) % 64 = 56; omega) (by omega) (by omega) (by omega) (by show 1 + _ < _; omega)
  have h1 : (msg.length + 1 + z) % 64 = 56 := h1
  generalize hd : [(128 : Int)] ++ List.replicate z 0 = d at h3 h4
  have hdl : d.length = 1 + z := by rw [← hd]; simp; omega
  have hz : z < 64 := by omega
  have hdB : Byt d := by
    intro x hx
    rw [← hd] at hx
    rcases List.mem_append.1 hx with h | h
    · simp at h; omega
    · have := List.eq_of_mem_replicate h; omega
  rw [len_1 (n + 9) n st d (by omega), hR.n] at h3
  rw [len_2 (n + 9) n msg _ (by rw [List.length_append]; omega), w64 (x := (msg.length : Int)) (by omega) (by omega)] at h4
  generalize hL : lenB (IntKind.wrap .u64 (8 * (msg.length : Int))) = L at h3 h4
  have hLl : L.length = 8 := by rw [← hL]; rfl
  have hLB : Byt L := by rw [← hL]; exact byt_lenB _
  obtain ⟨st', g1, g2⟩ := Add_rep (n + 9) (by omega) st msg (bytesI (d ++ L)) hR (by rw [bytesI_len, List.length_append]; omega) (by rw [bytesI_len, List.length_append]; omega)
  rw [g1, bd_some] at h3
  rw [ints_bytes (byt_app hdB hLB)] at g2
  obtain ⟨r, o1, o2, o3⟩ := out_eq (n + 9) st' 32 0 (n + 9) (n + 9) (Arr.zero 32) (by omega) (by omega) (by omega) (by intro x hx; have := List.eq_of_mem_replicate hx; omega)
  refine ⟨r, ?_, ?_, o3⟩
  · unfold F_hash_Stream_Sum
    rw [h3]; exact o1
  · have hm : (msg ++ (d ++ L)).length = 64 * ((msg ++ (d ++ L)).length / 64) := by
      simp only [List.length_append]; omega
    have hb := ref_blocks (n + 9) (by omega) (Arr.zero 32) (msg ++ (d ++ L)) g2.byt (by simp only [List.length_append]; omega) ((msg ++ (d ++ L)).length / 64) 0 (n + 9) h0 (by omega) (by simp only [List.length_append]; omega)
    unfold F_ref02_Sum F_ref02_padded
    rw [gd_of (by omega), gd_of (by simp only [List.length_cons, List.length_nil]; omega), h4, bd_some, List.append_assoc]
    refine Eq.trans hb ?_
    rw [Nat.mul_zero, List.drop_zero, ← g2.state]
    exact o2
end Go.Proofs.Tryd
namespace Go.Proofs.Tryd
open Go.Eng

theorem int_ex (N : Nat) : ∀ (k z m m' : Nat) (a : List Int), z < 128 ^ (k + 1) → z < 18446744073709551616 → k < m → k < m' → a.length + k < 1000000 →
    ∃ v, L_wire_Int_0 N m (z : Int) a = some (a ++ v) ∧ L_ref01_Int_0 N m' (z : Int) a = some (a ++ v) ∧ Byt v ∧ v.length ≤ k + 1
  | k, z, 0, m', a, _, _, h, _, _ => by omega
  | k, z, m + 1, 0, a, _, _, _, h, _ => by omega
  | k, z, m + 1, m' + 1, a, hz, hz2, hm, hm', hal => by
    rw [L_wire_Int_0, L_ref01_Int_0]
    have ew : IntKind.wrap .u8 (z : Int) = ((z % 256 : Nat) : Int) := by
      have : IntKind.wrap .u8 (z : Int) = (z : Int) % 256 := by simp [IntKind.wrap, IntKind.bits, IntKind.signed]
      rw [this]; omega
    by_cases h : 128 ≤ z
    · obtain ⟨k', rfl⟩ : ∃ k', k = k' + 1 := ⟨k - 1, by cases k with
        | zero => have : 128 ^ (0 + 1) = 128 := rfl; omega
        | succ k => rfl⟩
      have e1 : bits .or .u8 (IntKind.wrap .u8 (z : Int)) 128 = ((z % 128 + 128 : Nat) : Int) := by
        rw [ew, Go.Lib.u8_or128_any _ (by omega) (by omega)]; omega
      have e2 : Int.tmod (z : Int) 128 = ((z % 128 : Nat) : Int) := (Int.ofNat_tmod z 128).symm
      have e3 : Int.tdiv (z : Int) 128 = ((z / 128 : Nat) : Int) := (Int.ofNat_tdiv z 128).symm
      have e4 : (z : Int) / 2 ^ (7 : Int).toNat = ((z / 128 : Nat) : Int) := rfl
      have e5 : IntKind.wrap .u8 (((z % 128 : Nat) : Int) + 128) = ((z % 128 + 128 : Nat) : Int) := by
        rw [w8 (by omega) (by omega)]; omega
      rw [e1, e2, e3, e4, w8 (x := ((z % 128 : Nat) : Int)) (by omega) (by omega), e5, w64 (x := ((z / 128 : Nat) : Int)) (by omega) (by omega)]
      rw [show decide ((z : Int) > 127) = true by rw [decide_eq_true_eq]; omega, show decide ((z : Int) ≥ 128) = true by rw [decide_eq_true_eq]; omega, if_true?, if_true?, gd_of (by simp only [List.length_cons, List.length_nil]; omega), gd_of (by simp only [List.length_cons, List.length_nil]; omega)]
      obtain ⟨v, h1, h2, h3, h4⟩ := int_ex N k' (z / 128) m m' (a ++ [((z % 128 + 128 : Nat) : Int)]) (by have : 128 ^ (k' + 1 + 1) = 128 ^ (k' + 1) * 128 := rfl; omega) (by omega) (by omega) (by omega) (by simp only [List.length_append, List.length_cons, List.length_nil]; omega)
      refine ⟨((z % 128 + 128 : Nat) : Int) :: v, ?_, ?_, ?_, by simp only [List.length_cons]; omega⟩
      · rw [h1, List.append_assoc]; rfl
      · rw [h2, List.append_assoc]; rfl
      · intro x hx
        rcases List.mem_cons.1 hx with rfl | hx
        · omega
        · exact h3 x hx
    · rw [show decide ((z : Int) > 127) = false by rw [decide_eq_false_iff_not]; omega, show decide ((z : Int) ≥ 128) = false by rw [decide_eq_false_iff_not]; omega, if_false?, if_false?, gd_of (by simp only [List.length_cons, List.length_nil]; omega)]
      exact ⟨_, rfl, rfl, fun x hx => by rw [List.mem_singleton.1 hx]; exact wrap_u8 _, by simp⟩
theorem Int_nat (N n : Nat) (hN : 20 ≤ N) (hn : n < 4611686018427387904) : ∃ v, F_wire_Int N (n : Int) = some v ∧ F_ref01_Int N (n : Int) = some v ∧ Byt v ∧ v.length ≤ 10 := by
  obtain ⟨v, h1, h2, h3, h4⟩ := int_ex N 9 (2 * n) N N [] (by have : 128 ^ (9 + 1) = 1180591620717411303424 := rfl; omega) (by omega) (by omega) (by omega) (by simp)
  have e1 : (2 : Int) ^ (63 : Int).toNat = 9223372036854775808 := rfl
  have e2 : (2 : Int) ^ (1 : Int).toNat = 2 := rfl
  refine ⟨v, ?_, ?_, h3, h4⟩
  · unfold F_wire_Int
    rw [e1, e2, show (n : Int) / 9223372036854775808 = 0 by omega, w64 (x := (n : Int)) (by omega) (by omega), w64 (x := (n : Int) * 2) (by omega) (by omega), w64 (x := 0) (by omega) (by omega), show (n : Int) * 2 = ((2 * n : Nat) : Int) by omega, show (0 : Int) = ((0 : Nat) : Int) from rfl, Go.bits_xor_u64_nat _ _ (by omega) (by omega), Nat.xor_zero, h1]
    rfl
  · unfold F_ref01_Int
    rw [show decide ((n : Int) < 0) = false by rw [decide_eq_false_iff_not]; omega, if_false?, w64 (x := (n : Int)) (by omega) (by omega), w64 (x := (n : Int) * 2) (by omega) (by omega), show (n : Int) * 2 = ((2 * n : Nat) : Int) by omega, h2]
    rfl
theorem Bytes_eq (N : Nat) (s : Str) (hN : 20 ≤ N) (hs : s.length < 1099511627776) : ∃ v, F_wire_Bytes N s = some v ∧ F_ref01_Bytes N s = some v ∧ Byt v ∧ v.length ≤ s.length + 10 := by
  obtain ⟨v, h1, h2, h3, h4⟩ := Int_nat N s.length hN (by omega)
  refine ⟨v ++ intsS s, ?_, ?_, byt_app h3 (byt_ints s), by rw [List.length_append, intsS_len]; omega⟩
  · unfold F_wire_Bytes
    rw [h1, bd_some, gd_of (by rw [intsS_len]; omega)]
  · unfold F_ref01_Bytes
    rw [h2, bd_some, gd_of (by rw [intsS_len]; omega)]

/-- An upper bound of how much the parts add. -/
def tot : List Str → Nat
  | [] => 0
  | s :: l => s.length + 10 + tot l
theorem of_ex (N : Nat) (hN : 100 ≤ N) (p : List Str) (B : Nat) (hB : B / 64 + 8 ≤ N) (hB' : B < 274877906944) : ∀ (k i m m' : Nat) (st : HashStream) (msg : List Int), Rep N st msg → i + k = p.length → k < m → k < m' → msg.length + tot (p.drop i) ≤ B → p.length < 1000000000 →
    ∃ st' msg', Rep N st' msg' ∧ msg'.length ≤ B ∧ L_hash_Of_0 N p m i st.state st.block st.n = (bd? (F_hash_Stream_Sum N st') fun v10 => some (v10.part 0 16)) ∧ L_ref02_Input_0 N p m' i msg = some msg'
  | k, i, 0, m', st, msg, _, _, h, _, _, _ => by omega
  | k, i, m + 1, 0, st, msg, _, _, _, h, _, _ => by omega
  | 0, i, m + 1, m' + 1, st, msg, hR, hi, _, _, ht, _ => by
    refine ⟨st, msg, hR, by omega, ?_, ?_⟩
    · rw [L_hash_Of_0, show decide ((i : Int) < (p.length : Int)) = false by rw [decide_eq_false_iff_not]; omega]; rfl
    · rw [L_ref02_Input_0, show decide ((i : Int) < (p.length : Int)) = false by rw [decide_eq_false_iff_not]; omega]; rfl
  | k + 1, i, m + 1, m' + 1, st, msg, hR, hi, hm, hm', ht, hp => by
    have hlt : i < p.length := by omega
    rw [drop_cons hlt, tot] at ht
    obtain ⟨v, b1, b2, b3, b4⟩ := Bytes_eq N p[i] (by omega) (by omega)
    obtain ⟨st1, a1, a2⟩ := Add_rep N (by omega) st msg (bytesI v) hR (by rw [bytesI_len]; omega) (by rw [bytesI_len]; omega)
    rw [ints_bytes b3] at a2
    rw [L_hash_Of_0, L_ref02_Input_0, show decide ((i : Int) < (p.length : Int)) = true by rw [decide_eq_true_eq]; omega, if_true?, if_true?, get_of hlt, get_of hlt, b1, b2, bd_some, bd_some, gd_of (by omega), ck_of (by omega) (by omega)]
    have a1 : F_hash_Stream_Add N (HashStream.mk st.state st.block st.n) (bytesI v) = some st1 := a1
    rw [a1, bd_some, ck_of (by omega) (by omega), cast_succ]
    exact of_ex N hN p B hB hB' k (i + 1) m m' st1 _ a2 (by omega) (by omega) (by omega) (by rw [List.length_append]; omega) hp
theorem short_ex (N : Nat) (v : Arr 32) : ∀ (k t m : Nat) (w : Arr 16), t + k = 16 → k < m → w.l.take t = v.l.take t → L_ref02_Short_0 N v m t w = some (v.part 0 16)
  | k, t, 0, w, _, h, _ => by omega
  | 0, t, m + 1, w, h, _, hw => by
    obtain rfl : t = 16 := by omega
    rw [L_ref02_Short_0, show decide (((16 : Nat) : Int) < 16) = false from rfl, if_false?]
    congr 1
    apply Arr.ext
    rw [Arr.l_part (by omega), List.drop_zero, ← hw, List.take_of_length_le (by rw [w.len]; exact Nat.le_refl _)]
  | k + 1, t, m + 1, w, h, hm, hw => by
    rw [L_ref02_Short_0, show decide ((t : Int) < 16) = true by rw [decide_eq_true_eq]; omega]
    simp (disch := omega) only [if_true?, ck_of, gd_of, get_arr, cast_succ, Int.toNat_natCast]
    refine short_ex N v k (t + 1) m _ (by omega) (by omega) ?_
    have h1 : t < v.l.length := by rw [v.len]; omega
    have h2 : t < (w.l.set t (v.l.getD t 0)).length := by rw [List.length_set, w.len]; omega
    rw [Arr.l_set, List.take_succ_eq_append_getElem h2, List.take_succ_eq_append_getElem h1, List.take_set_of_le (Nat.le_refl t), hw, List.getElem_set_self]
    congr 2
    rw [List.getD_eq_getElem?_getD, List.getElem?_eq_getElem h1]; rfl

/-- hash.Of is what the specification says. -/
theorem Of_eq (N : Nat) (tag : Int) (p : List Str) (hN : 100 ≤ N) (hp : p.length < N) (hp' : p.length < 1000000000) (ht : tot p / 64 + 9 ≤ N) (ht' : tot p < 137438953472) : ∃ d : Arr 16, F_hash_Of N tag p = some d ∧ F_ref02_Of N tag p = some d ∧ Byt d.l := by
  have r0 : Rep N (HashStream.mk h0 (Arr.zero 64) 0) [] := ⟨rfl, rfl, rfl, by intro x hx; cases hx⟩
  have hb : Byt [IntKind.wrap .u8 tag] := fun x hx => by rw [List.mem_singleton.1 hx]; exact wrap_u8 _
  obtain ⟨st1, a1, a2⟩ := Add_rep N (by omega) _ [] (bytesI [IntKind.wrap .u8 tag]) r0 (by rw [bytesI_len]; simp only [List.length_cons, List.length_nil]; omega) (by rw [bytesI_len]; simp only [List.length_cons, List.length_nil]; omega)
  rw [ints_bytes hb] at a2
  obtain ⟨st', msg', g1, g2, g3, g4⟩ := of_ex N hN p (tot p + 1) (by omega) (by omega) p.length 0 N N st1 _ a2 (by omega) hp hp (by rw [List.drop_zero]; simp only [List.nil_append, List.length_cons, List.length_nil]; omega) hp'
  obtain ⟨r, s1, s2, s3⟩ := Sum_eq N hN st' msg' g1 (by omega) (by omega)
  refine ⟨r.part 0 16, ?_, ?_, ?_⟩
  · unfold F_hash_Of F_hash_Begin
    rw [bd_some]
    have a1 : F_hash_Stream_Add N (HashStream.mk (Arr.of [1779033703, 3144134277, 1013904242, 2773480762, 1359893119, 2600822924, 528734635, 1541459225] rfl) (Arr.zero 64) 0) (bytesI [IntKind.wrap .u8 tag]) = some st1 := a1
    rw [a1, bd_some]
    have g3 : L_hash_Of_0 N p N 0 st1.state st1.block st1.n = _ := g3
    rw [g3, s1, bd_some]
  · unfold F_ref02_Of F_ref02_Input F_ref02_Short
    have g4 : L_ref02_Input_0 N p N 0 [IntKind.wrap .u8 tag] = some msg' := g4
    rw [g4, bd_some, s2, bd_some]
    have := short_ex N r 16 0 N (Arr.zero 16) (by omega) (by omega) rfl
    have this : L_ref02_Short_0 N r N 0 (Arr.zero 16) = some (r.part 0 16) := this
    rw [this, bd_some]
  · rw [Arr.l_part (by omega)]
    exact byt_take (byt_drop s3 _) _
end Go.Proofs.Tryd
namespace Go.Proofs.Tryd
open Go.Eng

def nd (N : Nat) (a b : Arr 16) : Arr 16 := (F_merkle_Node N a b).getD default
def emp (N : Nat) : Arr 16 := (F_merkle_empty N).getD default
def lf (N : Nat) (s : Str) : Arr 16 := (F_merkle_Leaf N s).getD default
theorem node_ex (N : Nat) (hN : 100 ≤ N) (a b : Arr 16) : F_merkle_Node N a b = some (nd N a b) ∧ F_ref03_Node N a b = some (nd N a b) := by
  have ht : tot [bytesI a.l, bytesI b.l] = 52 := by
    show (bytesI a.l).length + 10 + ((bytesI b.l).length + 10 + 0) = 52
    rw [bytesI_len, bytesI_len, a.len, b.len]
  obtain ⟨d, h1, h2, _⟩ := Of_eq N 31 [bytesI a.l, bytesI b.l] hN (by simp only [List.length_cons, List.length_nil]; omega) (by simp only [List.length_cons, List.length_nil]; omega) (by omega) (by omega)
  have e1 : F_merkle_Node N a b = some d := by unfold F_merkle_Node; rw [h1, bd_some]
  have e2 : F_ref03_Node N a b = some d := by unfold F_ref03_Node; rw [h2, bd_some]
  have e3 : nd N a b = d := by unfold nd; rw [e1]; rfl
  rw [e3]; exact ⟨e1, e2⟩
theorem node_1 (N : Nat) (hN : 100 ≤ N) (a b : Arr 16) : F_merkle_Node N a b = some (nd N a b) := (node_ex N hN a b).1
theorem node_2 (N : Nat) (hN : 100 ≤ N) (a b : Arr 16) : F_ref03_Node N a b = some (nd N a b) := (node_ex N hN a b).2
theorem emp_ex (N : Nat) (hN : 100 ≤ N) : F_merkle_empty N = some (emp N) ∧ F_ref03_Empty N = some (emp N) := by
  obtain ⟨d, h1, h2, _⟩ := Of_eq N 32 [] hN (by simp only [List.length_nil]; omega) (by simp only [List.length_nil]; omega) (by show 0 / 64 + 9 ≤ N; omega) (by show 0 < _; omega)
  have e1 : F_merkle_empty N = some d := by unfold F_merkle_empty; rw [h1, bd_some]
  have e2 : F_ref03_Empty N = some d := by unfold F_ref03_Empty; rw [h2, bd_some]
  have e3 : emp N = d := by unfold emp; rw [e1]; rfl
  rw [e3]; exact ⟨e1, e2⟩
theorem emp_1 (N : Nat) (hN : 100 ≤ N) : F_merkle_empty N = some (emp N) := (emp_ex N hN).1
theorem emp_2 (N : Nat) (hN : 100 ≤ N) : F_ref03_Empty N = some (emp N) := (emp_ex N hN).2
theorem lf_ex (N : Nat) (hN : 100 ≤ N) (s : Str) (hs : s.length ≤ 2000) : F_merkle_Leaf N s = some (lf N s) ∧ F_ref03_Leaf N s = some (lf N s) := by
  obtain ⟨d, h1, h2, _⟩ := Of_eq N 30 [s] hN (by simp only [List.length_cons, List.length_nil]; omega) (by simp only [List.length_cons, List.length_nil]; omega) (by show (s.length + 10 + 0) / 64 + 9 ≤ N; omega) (by show s.length + 10 + 0 < _; omega)
  have e1 : F_merkle_Leaf N s = some d := by unfold F_merkle_Leaf; rw [h1, bd_some]
  have e2 : F_ref03_Leaf N s = some d := by unfold F_ref03_Leaf; rw [h2, bd_some]
  have e3 : lf N s = d := by unfold lf; rw [e1]; rfl
  rw [e3]; exact ⟨e1, e2⟩
theorem lf_1 (N : Nat) (hN : 100 ≤ N) (s : Str) (hs : s.length ≤ 2000) : F_merkle_Leaf N s = some (lf N s) := (lf_ex N hN s hs).1
theorem lf_2 (N : Nat) (hN : 100 ≤ N) (s : Str) (hs : s.length ≤ 2000) : F_ref03_Leaf N s = some (lf N s) := (lf_ex N hN s hs).2

theorem k0_fin : ∀ n : Fin 256, kstr0[n.val]? = some (UInt8.ofNat (Lib.bitLen n.val)) := by decide +kernel
theorem k0_get {β : Type} (y : Nat) (h : y < 256) (f : UInt8 → Option β) : get? kstr0 (IntKind.wrap .u8 (y : Int)) f = f (UInt8.ofNat (Lib.bitLen y)) := by
  rw [w8 (by omega) (by omega)]
  unfold get?
  rw [if_pos (by omega), Int.toNat_natCast, k0_fin ⟨y, h⟩]
theorem k0_nat (y : Nat) (h : y < 256) : ((UInt8.ofNat (Lib.bitLen y)).toNat : Int) = (Lib.bitLen y : Int) := by
  have : Lib.bitLen y ≤ 8 := Lib.bitLen_le8 ⟨y, h⟩
  rw [UInt8.toNat_ofNat']; omega
theorem len64_eq (N x : Nat) (hx : x < 4611686018427387904) : F_bits_Len64 N (x : Int) = some (Lib.bitLen x : Int) := by
  have p32 : (2 : Int) ^ (32 : Int).toNat = 4294967296 := rfl
  have p16 : (2 : Int) ^ (16 : Int).toNat = 65536 := rfl
  have p8 : (2 : Int) ^ (8 : Int).toNat = 256 := rfl
  have q32 : ∀ y : Nat, (y : Int) / 4294967296 = ((y / 4294967296 : Nat) : Int) := fun y => by omega
  have q16 : ∀ y : Nat, (y : Int) / 65536 = ((y / 65536 : Nat) : Int) := fun y => by omega
  have q8 : ∀ y : Nat, (y : Int) / 256 = ((y / 256 : Nat) : Int) := fun y => by omega
  have b8 : ∀ y : Nat, y < 256 → Lib.bitLen y ≤ 8 := fun y h => Lib.bitLen_le8 ⟨y, h⟩
  unfold F_bits_Len64
  rw [p32, p16, p8, q32, q16, q16, q8, q8, q8, q8]
  by_cases h1 : 4294967296 ≤ x
  · have s1 := Lib.bitLen_shift32 x h1 (by omega)
    rw [show decide ((x : Int) ≥ 4294967296) = true by rw [decide_eq_true_eq]; omega, if_true?]
    generalize hy : x / 4294967296 = y at *
    by_cases h2 : 65536 ≤ y
    · have s2 := Lib.bitLen_shift16 y h2 (by omega)
      rw [show decide ((y : Int) ≥ 65536) = true by rw [decide_eq_true_eq]; omega, if_true?, ck_of (by omega) (by omega)]
      generalize hz : y / 65536 = z at *
      by_cases h3 : 256 ≤ z
      · have s3 := Lib.bitLen_shift8 z h3 (by omega)
        have := b8 (z / 256) (by omega)
        rw [show decide ((z : Int) ≥ 256) = true by rw [decide_eq_true_eq]; omega, if_true?, ck_of (by omega) (by omega), k0_get _ (by omega), k0_nat _ (by omega), ck_of (by omega) (by omega), ck_of (by omega) (by omega)]
        congr 1; omega
      · have := b8 z (by omega)
        rw [show decide ((z : Int) ≥ 256) = false by rw [decide_eq_false_iff_not]; omega, if_false?, k0_get _ (by omega), k0_nat _ (by omega), ck_of (by omega) (by omega), ck_of (by omega) (by omega)]
        congr 1; omega
    · rw [show decide ((y : Int) ≥ 65536) = false by rw [decide_eq_false_iff_not]; omega, if_false?]
      by_cases h3 : 256 ≤ y
      · have s3 := Lib.bitLen_shift8 y h3 (by omega)
        have := b8 (y / 256) (by omega)
        rw [show decide ((y : Int) ≥ 256) = true by rw [decide_eq_true_eq]; omega, if_true?, ck_of (by omega) (by omega), k0_get _ (by omega), k0_nat _ (by omega), ck_of (by omega) (by omega), ck_of (by omega) (by omega)]
        congr 1; omega
      · have := b8 y (by omega)
        rw [show decide ((y : Int) ≥ 256) = false by rw [decide_eq_false_iff_not]; omega, if_false?, k0_get _ (by omega), k0_nat _ (by omega), ck_of (by omega) (by omega), ck_of (by omega) (by omega)]
        congr 1; omega
  · rw [show decide ((x : Int) ≥ 4294967296) = false by rw [decide_eq_false_iff_not]; omega, if_false?]
    by_cases h2 : 65536 ≤ x
    · have s2 := Lib.bitLen_shift16 x h2 (by omega)
      rw [show decide ((x : Int) ≥ 65536) = true by rw [decide_eq_true_eq]; omega, if_true?, ck_of (by omega) (by omega)]
      generalize hz : x / 65536 = z at *
      by_cases h3 : 256 ≤ z
      · have s3 := Lib.bitLen_shift8 z h3 (by omega)
        have := b8 (z / 256) (by omega)
        rw [show decide ((z : Int) ≥ 256) = true by rw [decide_eq_true_eq]; omega, if_true?, ck_of (by omega) (by omega), k0_get _ (by omega), k0_nat _ (by omega), ck_of (by omega) (by omega), ck_of (by omega) (by omega)]
        congr 1; omega
      · have := b8 z (by omega)
        rw [show decide ((z : Int) ≥ 256) = false by rw [decide_eq_false_iff_not]; omega, if_false?, k0_get _ (by omega), k0_nat _ (by omega), ck_of (by omega) (by omega), ck_of (by omega) (by omega)]
        congr 1; omega
    · rw [show decide ((x : Int) ≥ 65536) = false by rw [decide_eq_false_iff_not]; omega, if_false?]
      by_cases h3 : 256 ≤ x
      · have s3 := Lib.bitLen_shift8 x h3 (by omega)
        have := b8 (x / 256) (by omega)
        rw [show decide ((x : Int) ≥ 256) = true by rw [decide_eq_true_eq]; omega, if_true?, ck_of (by omega) (by omega), k0_get _ (by omega), k0_nat _ (by omega), ck_of (by omega) (by omega), ck_of (by omega) (by omega)]
        congr 1; omega
      · have := b8 x (by omega)
        rw [show decide ((x : Int) ≥ 256) = false by rw [decide_eq_false_iff_not]; omega, if_false?, k0_get _ (by omega), k0_nat _ (by omega), ck_of (by omega) (by omega), ck_of (by omega) (by omega)]
        congr 1; omega
/-- A number lies between two powers. -/
theorem len_pow : ∀ (k x : Nat), x < 2 ^ k → k ≤ 62 → 0 < x → 2 ^ (Lib.bitLen x - 1) ≤ x ∧ x < 2 * 2 ^ (Lib.bitLen x - 1) ∧ 1 ≤ Lib.bitLen x ∧ Lib.bitLen x ≤ k
  | 0, x, h, _, h0 => by simp at h; omega
  | k + 1, x, h, hk, h0 => by
    have hx : x < 2 ^ 64 := Nat.lt_of_lt_of_le h (Nat.pow_le_pow_right (by omega) (by omega))
    rw [Lib.bitLen_half x (by omega) hx]
    by_cases h1 : x / 2 = 0
    · have : Lib.bitLen 0 = 0 := by decide
      rw [h1, this]
      have : x = 1 := by omega
      subst this
      simp
    · obtain ⟨a, b, c, d⟩ := len_pow k (x / 2) (by rw [Nat.pow_succ] at h; omega) (by omega) (by omega)
      have e : 2 ^ (1 + Lib.bitLen (x / 2) - 1) = 2 * 2 ^ (Lib.bitLen (x / 2) - 1) := by
        rw [show 1 + Lib.bitLen (x / 2) - 1 = (Lib.bitLen (x / 2) - 1) + 1 by omega, Nat.pow_succ]; omega
      rw [e]
      omega
/-- The greatest power of 2 below a number. -/
def sp (n : Nat) : Nat := 2 ^ (Lib.bitLen (n - 1) - 1)
theorem sp_lt (n : Nat) (h : 2 ≤ n) (h' : n ≤ 2199023255552) : 1 ≤ sp n ∧ sp n < n ∧ n ≤ 2 * sp n := by
  obtain ⟨a, b, c, d⟩ := len_pow 62 (n - 1) (by omega) (by omega) (by omega)
  have : 0 < 2 ^ (Lib.bitLen (n - 1) - 1) := Nat.two_pow_pos _
  unfold sp; omega
theorem split_1 (N n : Nat) (h : 2 ≤ n) (h' : n ≤ 2199023255552) : F_merkle_split N (n : Int) = some ((sp n : Nat) : Int) := by
  obtain ⟨a, b, c, d⟩ := len_pow 62 (n - 1) (by omega) (by omega) (by omega)
  have eb : (IntKind.bits .i64 : Int) = 64 := rfl
  unfold F_merkle_split F_bits_Len
  rw [ck_of (by omega) (by omega), show (n : Int) - 1 = ((n - 1 : Nat) : Int) by omega, w64 (by omega) (by omega), len64_eq N (n - 1) (by omega), bd_some, bd_some, ck_of (by omega) (by omega), gd_of (by omega), gd_of (by omega)]
  have e : (1 : Int) * 2 ^ ((Lib.bitLen (n - 1) : Int) - 1).toNat = ((sp n : Nat) : Int) := by
    rw [show ((Lib.bitLen (n - 1) : Int) - 1).toNat = Lib.bitLen (n - 1) - 1 by omega, Int.one_mul]
    unfold sp
    rw [Int.natCast_pow]; rfl
  rw [e]
  have := sp_lt n h h'
  rw [ck_of (by omega) (by omega)]
theorem pow_uniq {a b n : Nat} (h1 : 2 ^ a < n) (h2 : n ≤ 2 * 2 ^ a) (h3 : 2 ^ b < n) (h4 : n ≤ 2 * 2 ^ b) : a = b := by
  rcases Nat.lt_trichotomy a b with h | h | h
  · have : 2 ^ (a + 1) ≤ 2 ^ b := Nat.pow_le_pow_right (by omega) h
    rw [Nat.pow_succ] at this; omega
  · exact h
  · have : 2 ^ (b + 1) ≤ 2 ^ a := Nat.pow_le_pow_right (by omega) h
    rw [Nat.pow_succ] at this; omega
theorem rsplit (N n : Nat) (h' : n ≤ 2199023255552) : ∀ (k m a : Nat), a + k = 45 → k < m → 2 ^ a < n → ∃ b, 2 ^ b < n ∧ n ≤ 2 * 2 ^ b ∧ L_ref03_split_0 N (n : Int) m ((2 ^ a : Nat) : Int) = some ((2 ^ b : Nat) : Int)
  | k, 0, a, _, h, _ => by omega
  | 0, m + 1, a, h, _, h2 => by
    obtain rfl : a = 45 := by omega
    have : 2 ^ 45 = 35184372088832 := rfl
    omega
  | k + 1, m + 1, a, h, hm, h2 => by
    have e : 2 * ((2 ^ a : Nat) : Int) = ((2 ^ (a + 1) : Nat) : Int) := by rw [Nat.pow_succ]; omega
    have e2 : 2 ^ (a + 1) = 2 ^ a * 2 := Nat.pow_succ ..
    rw [L_ref03_split_0, e, ck_of (by omega) (by omega)]
    by_cases h3 : 2 ^ (a + 1) < n
    · rw [show decide (((2 ^ (a + 1) : Nat) : Int) < (n : Int)) = true by rw [decide_eq_true_eq]; omega, if_true?]
      exact rsplit N n h' k m (a + 1) (by omega) (by omega) h3
    · rw [show decide (((2 ^ (a + 1) : Nat) : Int) < (n : Int)) = false by rw [decide_eq_false_iff_not]; omega, if_false?]
      exact ⟨a, h2, by omega, rfl⟩
theorem split_2 (N n : Nat) (hN : 50 ≤ N) (h : 2 ≤ n) (h' : n ≤ 2199023255552) : F_ref03_split N (n : Int) = some ((sp n : Nat) : Int) := by
  obtain ⟨b, h1, h2, h3⟩ := rsplit N n h' 45 N 0 (by omega) (by omega) (by show 1 < n; omega)
  have := sp_lt n h h'
  have e : Lib.bitLen (n - 1) - 1 = b := pow_uniq (n := n) (by show sp n < n; omega) (by show n ≤ 2 * sp n; omega) h1 h2
  unfold F_ref03_split
  refine Eq.trans h3 ?_
  unfold sp
  rw [e]
end Go.Proofs.Tryd
namespace Go.Proofs.Tryd
open Go.Eng

theorem same_len {α : Type} (l : List α) (k : Nat) : (l.drop k).take (l.length - k) = l.drop k := List.take_of_length_le (by rw [List.length_drop]; exact Nat.le_refl _)

theorem root_ex (N : Nat) (hN : 100 ≤ N) : ∀ (k d d' : Nat) (l : List (Arr 16)), l.length ≤ k → k < d → k < d' → l.length ≤ 1000000 → ∃ r, F_merkle_Root_r N d l = some r ∧ F_ref03_Root_r N d' l = some r
  | k, 0, d', l, _, h, _, _ => by omega
  | k, d + 1, 0, l, _, _, h, _ => by omega
  | k, d + 1, d' + 1, l, hl, hd, hd', hb => by
    rw [F_merkle_Root_r, F_ref03_Root_r]
    by_cases h0 : l.length = 0
    · rw [show ((l.length : Int) == 0) = true by rw [h0]; rfl, if_true?, if_true?, emp_1 N hN, emp_2 N hN]
      exact ⟨_, rfl, rfl⟩
    · rw [show ((l.length : Int) == 0) = false by simp; exact fun h => h0 (by rw [h]; rfl), if_false?, if_false?]
      by_cases h1 : l.length = 1
      · rw [show ((l.length : Int) == 1) = true by rw [h1]; rfl, if_true?, if_true?, show (0 : Int) = ((0 : Nat) : Int) from rfl, get_of (by omega)]
        exact ⟨_, rfl, rfl⟩
      · have hs := sp_lt l.length (by omega) (by omega)
        rw [show ((l.length : Int) == 1) = false by simp; omega, if_false?, if_false?, split_1 N l.length (by omega) (by omega), split_2 N l.length (by omega) (by omega) (by omega), bd_some, bd_some, gd_of (by omega), gd_of (by omega), gd_of (by omega), gd_of (by omega), Int.toNat_natCast, Int.toNat_natCast, Nat.sub_zero]
        obtain ⟨k', rfl⟩ : ∃ k', k = k' + 1 := ⟨k - 1, by omega⟩
        obtain ⟨x, x1, x2⟩ := root_ex N hN k' d d' (l.take (sp l.length)) (by rw [List.length_take]; omega) (by omega) (by omega) (by rw [List.length_take]; omega)
        obtain ⟨y, y1, y2⟩ := root_ex N hN k' d d' (l.drop (sp l.length)) (by rw [List.length_drop]; omega) (by omega) (by omega) (by rw [List.length_drop]; omega)
        rw [x1, x2, bd_some, bd_some, gd_of (by omega), gd_of (by omega), gd_of (by omega), same_len, y1, y2, bd_some, bd_some, node_1 N hN, node_2 N hN]
        exact ⟨_, rfl, rfl⟩
/-- The root of a list. -/
def rt (N : Nat) (l : List (Arr 16)) : Arr 16 := (F_merkle_Root N l).getD default
theorem rt_ex (N : Nat) (hN : 100 ≤ N) (l : List (Arr 16)) (h : l.length < N) (hb : l.length ≤ 1000000) : F_merkle_Root N l = some (rt N l) ∧ F_ref03_Root N l = some (rt N l) := by
  obtain ⟨r, h1, h2⟩ := root_ex N hN l.length N N l (Nat.le_refl _) h h hb
  have e1 : F_merkle_Root N l = some r := h1
  have e : rt N l = r := by unfold rt; rw [e1]; rfl
  rw [e]; exact ⟨h1, h2⟩
theorem rt_1 (N : Nat) (hN : 100 ≤ N) (l : List (Arr 16)) (h : l.length < N) (hb : l.length ≤ 1000000) : F_merkle_Root N l = some (rt N l) := (rt_ex N hN l h hb).1



theorem same_ex (N : Nat) (a : List (Arr 16)) (ha : a.length ≤ 1000000) : ∀ (k i m : Nat), i + k = a.length → k < m → L_ref03_Same_0 N a a m (i : Int) = some true
  | k, i, 0, _, h => by omega
  | 0, i, m + 1, h, _ => by
    rw [L_ref03_Same_0, show decide ((i : Int) < (a.length : Int)) = false by rw [decide_eq_false_iff_not]; omega]; rfl
  | k + 1, i, m + 1, h, hm => by
    rw [L_ref03_Same_0, show decide ((i : Int) < (a.length : Int)) = true by rw [decide_eq_true_eq]; omega, if_true?, get_of (by omega), get_of (by omega), beq_self_eq_true, if_true?, ck_of (by omega) (by omega), cast_succ]
    exact same_ex N a ha k (i + 1) m (by omega) (by omega)
theorem same_eq (N : Nat) (a : List (Arr 16)) (ha : a.length < N) (hb : a.length ≤ 1000000) : F_ref03_Same N a a = some true := by
  unfold F_ref03_Same
  rw [show ((a.length : Int) != (a.length : Int)) = false by simp, if_false?]
  exact same_ex N a hb a.length 0 N (by omega) ha
end Go.Proofs.Tryd
namespace Go.Proofs.Tryd
open Go.Eng

section
variable (N d n : Nat) (a b c r : Arr 16)
theorem x_root2 : F_merkle_Root_r N (d + 2) [a, b] = bd? (F_merkle_Node N a b) fun v6 => some v6 := by kernel_rfl
theorem x_root3 : F_merkle_Root_r N (d + 3) [a, b, c] = bd? (F_merkle_Root_r N (d + 2) [a, b]) fun v4 => bd? (F_merkle_Node N v4 c) fun v6 => some v6 := by kernel_rfl
theorem x_incl0 : F_merkle_Inclusion (n + 100) [a, b, c] 0 = some ([b, c], 0) := by kernel_rfl
theorem x_incl2 : F_merkle_Inclusion (n + 100) [a, b, c] 2 = bd? (bd? (F_merkle_Root_r (n + 100) (n + 98 + 2) [a, b]) fun v5 => some [v5]) fun v1 => some (v1, 0) := by kernel_rfl
theorem x_cons1 : F_merkle_Consistency (n + 100) [a, b, c] 1 = some ([b, c], 0) := by kernel_rfl
theorem x_cons2 : F_merkle_Consistency (n + 100) [a, b, c] 2 = some ([c], 0) := by kernel_rfl
theorem x_many : F_merkle_Many (n + 100) [a, b, c] [0, 2] = some ([b], 0) := by kernel_rfl
theorem x_app0 : F_merkle_Append (n + 100) (Peaks.mk 0 []) a = some (Peaks.mk 1 [a], 0) := by kernel_rfl
theorem x_app1 : F_merkle_Append (n + 100) (Peaks.mk 1 [a]) b = bd? (F_merkle_Node (n + 100) a b) fun v7 => some (Peaks.mk 2 [v7], 0) := by kernel_rfl
theorem x_app2 : F_merkle_Append (n + 100) (Peaks.mk 2 [a]) b = some (Peaks.mk 3 [a, b], 0) := by kernel_rfl
theorem x_ci2 : F_merkle_CheckInclusion_1_r N (d + 2) 0 2 a (Merklepath.mk [b] false) = bd? (F_merkle_Node N a b) fun v4 => some (v4, Merklepath.mk [] false) := by kernel_rfl
theorem x_ci3 : F_merkle_CheckInclusion_1_r N (d + 3) 0 3 a (Merklepath.mk [b, c] false) = bd? (F_merkle_CheckInclusion_1_r N (d + 2) 0 2 a (Merklepath.mk [b] false)) fun v3 => bd? (F_merkle_Node N v3.1 c) fun v4 => some (v4, v3.2) := by kernel_rfl
theorem x_ci : F_merkle_CheckInclusion (n + 100) a 0 3 [b, c] r = bd? (F_merkle_CheckInclusion_1_r (n + 100) (n + 97 + 3) 0 3 a (Merklepath.mk [b, c] false)) fun v1 => bd? (F_merkle_path_settle_put (n + 100) v1.2 (v1.1.l == r.l)) fun v2 => some v2 := by kernel_rfl
theorem x_cj2 : F_merkle_CheckInclusion_1_r N (d + 2) 0 2 a (Merklepath.mk [] false) = bd? (F_merkle_Node N a (Arr.zero 16)) fun v4 => some (v4, Merklepath.mk [] true) := by kernel_rfl
theorem x_cj3 : F_merkle_CheckInclusion_1_r N (d + 3) 0 3 a (Merklepath.mk [c] false) = bd? (F_merkle_CheckInclusion_1_r N (d + 2) 0 2 a (Merklepath.mk [] false)) fun v3 => bd? (F_merkle_Node N v3.1 c) fun v4 => some (v4, v3.2) := by kernel_rfl
theorem x_cj : F_merkle_CheckInclusion (n + 100) a 0 3 [c] r = bd? (F_merkle_CheckInclusion_1_r (n + 100) (n + 97 + 3) 0 3 a (Merklepath.mk [c] false)) fun v1 => bd? (F_merkle_path_settle_put (n + 100) v1.2 (v1.1.l == r.l)) fun v2 => some v2 := by kernel_rfl
theorem x_cc2 : F_merkle_CheckConsistency_1_r N (d + 2) 1 2 true a (Merklepath.mk [b] false) = bd? (F_merkle_Node N a b) fun v5 => some (a, v5, Merklepath.mk [] false) := by kernel_rfl
theorem x_cc3 : F_merkle_CheckConsistency_1_r N (d + 3) 1 3 true a (Merklepath.mk [b, c] false) = bd? (F_merkle_CheckConsistency_1_r N (d + 2) 1 2 true a (Merklepath.mk [b] false)) fun v4 => bd? (F_merkle_Node N v4.2.1 c) fun v5 => some (v4.1, v5, v4.2.2) := by kernel_rfl
theorem x_cc : F_merkle_CheckConsistency (n + 100) 1 3 a r [b, c] = bd? (F_merkle_CheckConsistency_1_r (n + 100) (n + 97 + 3) 1 3 true a (Merklepath.mk [b, c] false)) fun v3 => if? ((v3.1.l == a.l)) (bd? (F_merkle_path_settle_put (n + 100) v3.2.2 (v3.2.1.l == r.l)) fun v4 => some v4) (bd? (F_merkle_path_settle_put (n + 100) v3.2.2 false) fun v5 => some v5) := by kernel_rfl
theorem x_cm2 : F_merkle_CheckMany_1_r (n + 100) (d + 2) 0 2 [0] (Merklepath.mk [b] false) (Merklepath.mk [a, c] false) = bd? (F_merkle_Node (n + 100) a b) fun v7 => some (v7, Merklepath.mk [] false, Merklepath.mk [c] false) := by kernel_rfl
theorem x_cm3 : F_merkle_CheckMany_1_r (n + 100) (d + 3) 0 3 [0, 2] (Merklepath.mk [b] false) (Merklepath.mk [a, c] false) = bd? (F_merkle_CheckMany_1_r (n + 100) (d + 2) 0 2 [0] (Merklepath.mk [b] false) (Merklepath.mk [a, c] false)) fun v5 => bd? (F_merkle_CheckMany_1_r (n + 100) (d + 2) 2 1 [2] v5.2.1 v5.2.2) fun v6 => bd? (F_merkle_Node (n + 100) v5.1 v6.1) fun v7 => some (v7, v6.2.1, v6.2.2) := by kernel_rfl
theorem x_cm1 : F_merkle_CheckMany_1_r (n + 100) (d + 2) 2 1 [2] (Merklepath.mk [] false) (Merklepath.mk [c] false) = some (c, Merklepath.mk [] false, Merklepath.mk [] false) := by kernel_rfl
theorem x_cm : F_merkle_CheckMany (n + 100) 3 [0, 2] [a, c] [b] r = bd? (F_merkle_CheckMany_1_r (n + 100) (n + 97 + 3) 0 3 [0, 2] (Merklepath.mk [b] false) (Merklepath.mk [a, c] false)) fun v4 => bd? (F_merkle_path_settle_put (n + 100) v4.2.1 (v4.1.l == r.l)) fun v5 => some v5 := by kernel_rfl
end

theorem settle_t (N : Nat) : F_merkle_path_settle_put N (Merklepath.mk [] false) true = some true := rfl
theorem settle_f (N : Nat) (q : Bool) : F_merkle_path_settle_put N (Merklepath.mk [] true) q = some false := by cases q <;> rfl

/-- The examples hold. -/
theorem sanity_eq (N : Nat) (hN : 100 ≤ N) : F_law03_sanity N = some true := by
  obtain ⟨n, rfl⟩ : ∃ n, N = n + 100 := ⟨N - 100, by omega⟩
  unfold F_law03_sanity
  rw [lf_1 _ hN _ (by simp), lf_1 _ hN _ (by simp), lf_1 _ hN _ (by simp), bd_some, bd_some, bd_some]
  have ha := lf_2 (n + 100) hN ([97] : Str) (by simp)
  generalize lf (n + 100) ([97] : Str) = a at *
  generalize lf (n + 100) ([98] : Str) = b
  generalize lf (n + 100) ([99] : Str) = c
  have hab := node_1 (n + 100) hN a b
  have hab2 := node_2 (n + 100) hN a b
  generalize nd (n + 100) a b = ab at *
  have hr := node_1 (n + 100) hN ab c
  generalize nd (n + 100) ab c = r at *
  rw [hab, bd_some, hr, bd_some, x_incl0, bd_some, x_incl2, x_root2, hab, bd_some, bd_some, bd_some, bd_some, x_cons1, bd_some, x_cons2, bd_some, x_many, bd_some]
  have n1 : (0 : Int) + 1 = 1 := rfl
  have n2 : (1 : Int) + 1 = 2 := rfl
  have n3 : (2 : Int) + 1 = 3 := rfl
  have d0 : decide ((0 : Int) < 3) = true := rfl
  have d1 : decide ((1 : Int) < 3) = true := rfl
  have d2 : decide ((2 : Int) < 3) = true := rfl
  have d3 : decide ((3 : Int) < 3) = false := rfl
  have z0 : ((0 : Int) != 0) = false := rfl
  rw [show n + 100 = n + 96 + 1 + 1 + 1 + 1 from rfl, L_law03_sanity_0, ← show n + 100 = n + 96 + 1 + 1 + 1 + 1 from rfl, d0, if_true?, get_0, x_app0, bd_some, z0, if_false?, ck_of (by omega) (by omega), n1]
  rw [L_law03_sanity_0, d1, if_true?, get_1, x_app1, hab, bd_some, bd_some, z0, if_false?, ck_of (by omega) (by omega), n2]
  rw [L_law03_sanity_0, d2, if_true?, get_2, x_app2, bd_some, z0, if_false?, ck_of (by omega) (by omega), n3]
  rw [L_law03_sanity_0, d3, if_false?]
  have e1 : F_merkle_Root (n + 100) [a, b, c] = some r := by
    show F_merkle_Root_r (n + 100) (n + 97 + 3) [a, b, c] = _
    rw [x_root3, x_root2, hab, bd_some, bd_some, hr]; rfl
  have e2 : F_merkle_CheckInclusion (n + 100) a 0 3 [b, c] r = some true := by
    rw [x_ci, x_ci3, x_ci2, hab, bd_some, bd_some, hr, bd_some, bd_some, beq_self_eq_true, settle_t]; rfl
  have e3 : F_merkle_CheckConsistency (n + 100) 1 3 a r [b, c] = some true := by
    rw [x_cc, x_cc3, x_cc2, hab, bd_some, bd_some, hr, bd_some, bd_some, beq_self_eq_true, if_true?, beq_self_eq_true, settle_t]; rfl
  have e4 : F_merkle_CheckMany (n + 100) 3 [0, 2] [a, c] [b] r = some true := by
    rw [x_cm, x_cm3, x_cm2, hab, bd_some, bd_some, x_cm1, bd_some, hr, bd_some, bd_some, beq_self_eq_true, settle_t]; rfl
  have e5 : F_merkle_CheckInclusion (n + 100) a 0 3 [ab] r = some false := by
    rw [x_cj, x_cj3, x_cj2, node_1 _ hN, bd_some, bd_some, node_1 _ hN, bd_some, bd_some, settle_f]; rfl
  have s := fun l (hl : l.length ≤ 10) => same_eq (n + 100) l (by omega) (by omega)
  simp only [e1, e2, e3, e4, e5, ha, hab2, bd_some, beq_self_eq_true, s [b, c] (by simp), s [ab] (by simp), s [c] (by simp), s [b] (by simp), s [ab, c] (by simp)]
  rfl
end Go.Proofs.Tryd
namespace Go.Proofs.Tryd
open Go.Eng

end Go.Proofs.Tryd
namespace Go.Proofs.Tryd
open Go.Eng



end Go.Proofs.Tryd
namespace Go.Proofs.Tryd
open Go.Eng



end Go.Proofs.Tryd
namespace Go.Proofs.Tryd
open Go.Eng

theorem rt_any (N : Nat) (hN : 100 ≤ N) (d : Nat) (l : List (Arr 16)) (h : l.length < d) (h2 : l.length < N) (hb : l.length ≤ 1000000) : F_merkle_Root_r N d l = some (rt N l) := by
  obtain ⟨r, r1, r2⟩ := root_ex N hN l.length d N l (Nat.le_refl _) h h2 hb
  have r3 : F_ref03_Root N l = some r := r2
  rw [(rt_ex N hN l h2 hb).2] at r3
  rw [r1, Option.some.inj r3]
theorem rt_one (N : Nat) (hN : 100 ≤ N) (x : Arr 16) : rt N [x] = x := by
  have h := rt_any N hN 2 [x] (by simp) (by simp; omega) (by simp)
  exact (Option.some.inj h).symm
theorem rt_step (N : Nat) (hN : 100 ≤ N) (l : List (Arr 16)) (h : 2 ≤ l.length) (h2 : l.length < N) (hb : l.length ≤ 1000000) : rt N l = nd N (rt N (l.take (sp l.length))) (rt N (l.drop (sp l.length))) := by
  have hs := sp_lt l.length (by omega) (by omega)
  have e := rt_any N hN (l.length + 1) l (by omega) h2 hb
  rw [F_merkle_Root_r, show ((l.length : Int) == 0) = false by (have : (l.length : Int) ≠ 0 := by omega); exact beq_false_of_ne this, if_false?, show ((l.length : Int) == 1) = false by simp; omega, if_false?, split_1 N l.length (by omega) (by omega), bd_some, gd_of (by omega), gd_of (by omega), Int.toNat_natCast, Nat.sub_zero, rt_any N hN _ (l.take (sp l.length)) (by rw [List.length_take]; omega) (by rw [List.length_take]; omega) (by rw [List.length_take]; omega), bd_some, gd_of (by omega), gd_of (by omega), gd_of (by omega), Int.toNat_natCast, same_len, rt_any N hN _ (l.drop (sp l.length)) (by rw [List.length_drop]; omega) (by rw [List.length_drop]; omega) (by rw [List.length_drop]; omega), bd_some, node_1 N hN, bd_some] at e
  exact (Option.some.inj e).symm
theorem sp_is (m j : Nat) (h1 : 2 ^ j < m) (h2 : m ≤ 2 * 2 ^ j) (hb : m ≤ 2199023255552) : sp m = 2 ^ j := by
  have := sp_lt m (by have := Nat.two_pow_pos j; omega) hb
  unfold sp at *
  rw [pow_uniq (a := Lib.bitLen (m - 1) - 1) (b := j) (n := m) (by omega) (by omega) h1 h2]



end Go.Proofs.Tryd
namespace Go.Proofs.Tryd
open Go.Eng

def byt : List Nat → Nat
  | [] => 0
  | b :: bs => b + 256 * byt bs
def pat (m : Nat) : Nat → Nat
  | 0 => 0
  | k + 1 => m + 256 * pat m k
theorem byt_ex : ∀ (k x : Nat), x < 256 ^ k → ∃ bs, bs.length = k ∧ (∀ b ∈ bs, b < 256) ∧ byt bs = x
  | 0, x, h => ⟨[], rfl, by simp, by simp at h; rw [h]; rfl⟩
  | k + 1, x, h => by
    obtain ⟨bs, h1, h2, h3⟩ := byt_ex k (x / 256) (by rw [Nat.pow_succ] at h; omega)
    refine ⟨x % 256 :: bs, by simp [h1], fun b hb => ?_, ?_⟩
    · rcases List.mem_cons.1 hb with rfl | hb
      · omega
      · exact h2 b hb
    · rw [byt, h3]; omega
theorem byt_lt : ∀ (bs : List Nat), (∀ b ∈ bs, b < 256) → byt bs < 256 ^ bs.length
  | [], _ => by simp [byt]
  | b :: bs, h => by
    have h1 := byt_lt bs fun c hc => h c (by simp [hc])
    have h2 := h b (by simp)
    rw [byt, List.length_cons, Nat.pow_succ]; omega
theorem and_cut (a m x y : Nat) (ha : a < 256) (hm : m < 256) : (a + 256 * x) &&& (m + 256 * y) = (a &&& m) + 256 * (x &&& y) := by
  have h1 := Nat.and_mod_two_pow (a := a + 256 * x) (b := m + 256 * y) (n := 8)
  have h2 := Nat.and_div_two_pow (a := a + 256 * x) (b := m + 256 * y) (n := 8)
  have e : (2 : Nat) ^ 8 = 256 := rfl
  rw [e] at h1 h2
  rw [show (a + 256 * x) % 256 = a by omega, show (m + 256 * y) % 256 = m by omega] at h1
  rw [show (a + 256 * x) / 256 = x by omega, show (m + 256 * y) / 256 = y by omega] at h2
  rw [← h1, ← h2]; omega
theorem byt_le (c : Nat) : ∀ (bs : List Nat), (∀ b ∈ bs, b ≤ c) → byt bs ≤ c * pat 1 bs.length
  | [], _ => by simp [byt]
  | b :: bs, h => by
    have h1 := byt_le c bs fun d hd => h d (by simp [hd])
    have h2 := h b (by simp)
    rw [byt, List.length_cons, pat, Nat.mul_add, Nat.mul_left_comm]; omega
theorem ex8 {l : List Nat} (h : l.length = 8) : ∃ p0 p1 p2 p3 p4 p5 p6 p7, l = [p0, p1, p2, p3, p4, p5, p6, p7] :=
  match l, h with
  | [a, b, c, d, e, f, g, i], _ => ⟨a, b, c, d, e, f, g, i, rfl⟩
def by1 (a : Nat) : Nat := (a / 2 &&& 85) + (a &&& 85)
def by2 (a : Nat) : Nat := (a / 4 &&& 51) + (a &&& 51)
def by3 (a : Nat) : Nat := a / 16 + a % 16
theorem fx1 : ∀ (a : Fin 256) (c : Fin 2), ((a.val / 2 + 128 * c.val) &&& 85) = (a.val / 2 &&& 85) := by decide +kernel
theorem fx2 : ∀ (a : Fin 256) (c : Fin 4), ((a.val / 4 + 64 * c.val) &&& 51) = (a.val / 4 &&& 51) := by decide +kernel
theorem fx3 : ∀ (a : Fin 137), (a.val &&& 15) = a.val % 16 := by decide +kernel
theorem gx1 : ∀ a : Fin 256, by1 a.val < 256 := by decide +kernel
theorem gx2 : ∀ a : Fin 256, by2 (by1 a.val) < 256 ∧ by2 (by1 a.val) % 16 ≤ 4 ∧ by2 (by1 a.val) / 16 ≤ 4 := by decide +kernel
theorem gx3 : ∀ a : Fin 256, by3 (by2 (by1 a.val)) = Lib.popAux 8 a.val ∧ Lib.popAux 8 a.val ≤ 8 := by decide +kernel
theorem step1 : ∀ bs : List Nat, (∀ b ∈ bs, b < 256) → (byt bs / 2 &&& pat 85 bs.length) + (byt bs &&& pat 85 bs.length) = byt (bs.map by1)
  | [], _ => by simp [byt]
  | a :: bs, h => by
    have ih := step1 bs fun c hc => h c (by simp [hc])
    have ha := h a (by simp)
    rw [byt, List.length_cons, pat, List.map_cons, byt, ← ih, show (a + 256 * byt bs) / 2 = (a / 2 + 128 * (byt bs % 2)) + 256 * (byt bs / 2) by omega, and_cut _ _ _ _ (by omega) (by omega), and_cut _ _ _ _ ha (by omega)]
    have := fx1 ⟨a, ha⟩ ⟨byt bs % 2, by omega⟩
    simp only at this
    rw [this]; unfold by1; omega
theorem step2 : ∀ bs : List Nat, (∀ b ∈ bs, b < 256) → (byt bs / 4 &&& pat 51 bs.length) + (byt bs &&& pat 51 bs.length) = byt (bs.map by2)
  | [], _ => by simp [byt]
  | a :: bs, h => by
    have ih := step2 bs fun c hc => h c (by simp [hc])
    have ha := h a (by simp)
    rw [byt, List.length_cons, pat, List.map_cons, byt, ← ih, show (a + 256 * byt bs) / 4 = (a / 4 + 64 * (byt bs % 4)) + 256 * (byt bs / 4) by omega, and_cut _ _ _ _ (by omega) (by omega), and_cut _ _ _ _ ha (by omega)]
    have := fx2 ⟨a, ha⟩ ⟨byt bs % 4, by omega⟩
    simp only at this
    rw [this]; unfold by2; omega
theorem byt_mod : ∀ bs : List Nat, (∀ b ∈ bs, b % 16 ≤ 4) → byt bs % 16 ≤ 4
  | [], _ => by simp [byt]
  | a :: bs, h => by have := h a (by simp); rw [byt]; omega
theorem step3 : ∀ bs : List Nat, (∀ b ∈ bs, b % 16 ≤ 4 ∧ b / 16 ≤ 4) → (byt bs / 16 + byt bs &&& pat 15 bs.length) = byt (bs.map by3)
  | [], _ => by simp [byt]
  | a :: bs, h => by
    have ih := step3 bs fun c hc => h c (by simp [hc])
    have ha := h a (by simp)
    have hm := byt_mod bs fun c hc => (h c (by simp [hc])).1
    rw [byt, List.length_cons, pat, List.map_cons, byt, ← ih, show (a + 256 * byt bs) / 16 + (a + 256 * byt bs) = (a / 16 + a + 16 * (byt bs % 16)) + 256 * (byt bs / 16 + byt bs) by omega, and_cut _ _ _ _ (by omega) (by omega)]
    have := fx3 ⟨a / 16 + a + 16 * (byt bs % 16), by omega⟩
    simp only at this
    rw [this]; unfold by3; omega
theorem pop_cut : ∀ (k f a y : Nat), a < 2 ^ k → Lib.popAux (k + f) (a + 2 ^ k * y) = Lib.popAux k a + Lib.popAux f y
  | 0, f, a, y, h => by
    obtain rfl : a = 0 := by simp at h; omega
    simp [Lib.popAux]
  | k + 1, f, a, y, h => by
    have e : 2 ^ (k + 1) = 2 * 2 ^ k := by rw [Nat.pow_succ]; omega
    have e2 : 2 ^ (k + 1) * y = 2 * (2 ^ k * y) := by rw [e, Nat.mul_assoc]
    have ih := pop_cut k f (a / 2) y (by omega)
    rw [show k + 1 + f = (k + f) + 1 by omega, Lib.popAux, Lib.popAux, e2, show (a + 2 * (2 ^ k * y)) / 2 = a / 2 + 2 ^ k * y by omega, ih]
    omega
theorem pop_byt : ∀ (bs : List Nat), (∀ b ∈ bs, b < 256) → Lib.popAux (8 * bs.length) (byt bs) = (bs.map (Lib.popAux 8)).sum
  | [], _ => by simp [byt, Lib.popAux]
  | a :: bs, h => by
    have ih := pop_byt bs fun c hc => h c (by simp [hc])
    have ha := h a (by simp)
    have := pop_cut 8 (8 * bs.length) a (byt bs) ha
    rw [byt, List.length_cons, show 8 * (bs.length + 1) = 8 + 8 * bs.length by omega, List.map_cons, List.sum_cons, ← ih]
    exact this
theorem ls1 (p0 p1 p2 p3 p4 p5 p6 p7 : Nat) : p0 + 256 * (p1 + 256 * (p2 + 256 * (p3 + 256 * (p4 + 256 * (p5 + 256 * (p6 + 256 * (p7 + 256 * 0))))))) + (p1 + 256 * (p2 + 256 * (p3 + 256 * (p4 + 256 * (p5 + 256 * (p6 + 256 * (p7 + 256 * 0))))))) = (p0 + p1) + 256 * ((p1 + p2) + 256 * ((p2 + p3) + 256 * ((p3 + p4) + 256 * ((p4 + p5) + 256 * ((p5 + p6) + 256 * ((p6 + p7) + 256 * p7)))))) := by omega
theorem ls2 (q0 q1 q2 q3 q4 q5 q6 q7 : Nat) : q0 + 256 * (q1 + 256 * (q2 + 256 * (q3 + 256 * (q4 + 256 * (q5 + 256 * (q6 + 256 * q7)))))) + (q2 + 256 * (q3 + 256 * (q4 + 256 * (q5 + 256 * (q6 + 256 * q7))))) = (q0 + q2) + 256 * ((q1 + q3) + 256 * ((q2 + q4) + 256 * ((q3 + q5) + 256 * ((q4 + q6) + 256 * ((q5 + q7) + 256 * (q6 + 256 * q7)))))) := by omega
theorem ls3 (r0 r1 r2 r3 r4 r5 r6 r7 : Nat) : r0 + 256 * (r1 + 256 * (r2 + 256 * (r3 + 256 * (r4 + 256 * (r5 + 256 * (r6 + 256 * r7)))))) + (r4 + 256 * (r5 + 256 * (r6 + 256 * r7))) = (r0 + r4) + 256 * ((r1 + r5) + 256 * ((r2 + r6) + 256 * ((r3 + r7) + 256 * (r4 + 256 * (r5 + 256 * (r6 + 256 * r7)))))) := by omega
theorem ls4 (c q0 q1 q2 q3 q4 q5 q6 q7 : Nat) (hc : c ≤ 64) (h0 : q0 ≤ c) (h1 : q1 ≤ c) (h2 : q2 ≤ c) (h3 : q3 ≤ c) (h4 : q4 ≤ c) (h5 : q5 ≤ c) (h6 : q6 ≤ c) (h7 : q7 ≤ 8) : q0 + 256 * (q1 + 256 * (q2 + 256 * (q3 + 256 * (q4 + 256 * (q5 + 256 * (q6 + 256 * q7)))))) < 1152921504606846976 := by omega
theorem dv1 (p y : Nat) (h : p < 256) : (p + 256 * y) / 256 = y := by omega
theorem dv2 (p q y : Nat) (h : p < 256) (h' : q < 256) : (p + 256 * (q + 256 * y)) / 65536 = y := by omega
theorem dv4 (p q r s y : Nat) (_ : p < 256) (_ : q < 256) (_ : r < 256) (_ : s < 256) : (p + 256 * (q + 256 * (r + 256 * (s + 256 * y)))) / 4294967296 = y := by omega
theorem md (p y : Nat) (h : p < 128) : (p + 256 * y) % 128 = p := by omega
theorem last_step (p0 p1 p2 p3 p4 p5 p6 p7 : Nat) (h0 : p0 ≤ 8) (h1 : p1 ≤ 8) (h2 : p2 ≤ 8) (h3 : p3 ≤ 8) (h4 : p4 ≤ 8) (h5 : p5 ≤ 8) (h6 : p6 ≤ 8) (h7 : p7 ≤ 8) (x1 x2 x3 z : Nat)
    (hz : z = p0 + 256 * (p1 + 256 * (p2 + 256 * (p3 + 256 * (p4 + 256 * (p5 + 256 * (p6 + 256 * (p7 + 256 * 0)))))))) (e1 : x1 = z + z / 256) (e2 : x2 = x1 + x1 / 65536) (e3 : x3 = x2 + x2 / 4294967296) :
    x3 % 128 = p0 + (p1 + (p2 + (p3 + (p4 + (p5 + (p6 + (p7 + 0))))))) ∧ z < 1152921504606846976 ∧ x1 < 1152921504606846976 ∧ x2 < 1152921504606846976 ∧ x3 < 1152921504606846976 := by
  have k : p0 < 256 ∧ p0 + p1 ≤ 16 ∧ p1 + p2 ≤ 16 ∧ p2 + p3 ≤ 16 ∧ p3 + p4 ≤ 16 ∧ p4 + p5 ≤ 16 ∧ p5 + p6 ≤ 16 ∧ p6 + p7 ≤ 16 ∧ p0 + p1 < 256 ∧ p1 + p2 < 256 := by clear hz e1 e2 e3; omega
  have m : (p0 + p1) + (p2 + p3) ≤ 32 ∧ (p1 + p2) + (p3 + p4) ≤ 32 ∧ (p2 + p3) + (p4 + p5) ≤ 32 ∧ (p3 + p4) + (p5 + p6) ≤ 32 ∧ (p4 + p5) + (p6 + p7) ≤ 32 ∧ (p5 + p6) + p7 ≤ 32 ∧ p6 + p7 ≤ 32 ∧ (p0 + p1) + (p2 + p3) < 256 ∧ (p1 + p2) + (p3 + p4) < 256 ∧ (p2 + p3) + (p4 + p5) < 256 ∧ (p3 + p4) + (p5 + p6) < 256 := by clear hz e1 e2 e3; omega
  have n : (p0 + p1) + (p2 + p3) + ((p4 + p5) + (p6 + p7)) ≤ 64 ∧ (p1 + p2) + (p3 + p4) + ((p5 + p6) + p7) ≤ 64 ∧ (p2 + p3) + (p4 + p5) + (p6 + p7) ≤ 64 ∧ (p3 + p4) + (p5 + p6) + p7 ≤ 64 ∧ (p4 + p5) + (p6 + p7) ≤ 64 ∧ (p5 + p6) + p7 ≤ 64 ∧ p6 + p7 ≤ 64 ∧ (p0 + p1) + (p2 + p3) + ((p4 + p5) + (p6 + p7)) < 128 := by clear hz e1 e2 e3; omega
  have s : (p0 + p1) + (p2 + p3) + ((p4 + p5) + (p6 + p7)) = p0 + (p1 + (p2 + (p3 + (p4 + (p5 + (p6 + (p7 + 0))))))) := by clear hz e1 e2 e3; omega
  obtain ⟨k0, k1, k2, k3, k4, k5, k6, k7, k8, k9⟩ := k
  obtain ⟨m0, m1, m2, m3, m4, m5, m6, m7, m8, m9, m10⟩ := m
  obtain ⟨n0, n1, n2, n3, n4, n5, n6, n7⟩ := n
  have e1' := e1
  rw [hz, dv1 p0 _ k0, ls1] at e1'
  have e2' := e2
  rw [e1', dv2 _ _ _ k8 k9, ls2] at e2'
  have e3' := e3
  rw [e2', dv4 _ _ _ _ _ m7 m8 m9 m10, ls3] at e3'
  refine ⟨?_, ?_, ?_, ?_, ?_⟩
  · rw [e3', md _ _ n7, s]
  · rw [hz]; exact ls4 8 p0 p1 p2 p3 p4 p5 p6 (p7 + 256 * 0) (by decide) h0 h1 h2 h3 h4 h5 h6 h7
  · rw [e1']; exact ls4 16 _ _ _ _ _ _ _ p7 (by decide) k1 k2 k3 k4 k5 k6 k7 h7
  · rw [e2']; exact ls4 32 _ _ _ _ _ _ _ p7 (by decide) m0 m1 m2 m3 m4 m5 m6 h7
  · rw [e3']; exact ls4 64 _ _ _ _ _ _ _ p7 (by decide) n0 n1 n2 n3 n4 n5 n6 h7
theorem u64_id {z : Int} {n : Nat} (h : z = (n : Int)) (hn : n < 18446744073709551616) : IntKind.wrap .u64 z = (n : Int) := by
  rw [IntKind.wrap_u64, h]; omega
theorem dvn (a b : Nat) : (a : Int) / (b : Int) = ((a / b : Nat) : Int) := (Int.natCast_ediv a b).symm
theorem wr_1 (X Y : Nat) (hX : X < 18446744073709551616) (hY : Y < 18446744073709551616) (h : (X / 2 &&& 6148914691236517205) + (X &&& 6148914691236517205) = Y) :
    IntKind.wrap .u64 ((bits .and .u64 ((X : Int) / 2) 6148914691236517205) + (bits .and .u64 (X : Int) 6148914691236517205)) = (Y : Int) := by
  have e1 : bits .and .u64 ((X : Int) / 2) 6148914691236517205 = ((X / 2 &&& 6148914691236517205 : Nat) : Int) := by
    have := bits_and_u64_nat (X / 2) 6148914691236517205 (by omega) (by omega)
    rw [← this]; rfl
  have e2 : bits .and .u64 (X : Int) 6148914691236517205 = ((X &&& 6148914691236517205 : Nat) : Int) := bits_and_u64_nat X 6148914691236517205 hX (by omega)
  rw [e1, e2]
  exact u64_id (by rw [← h, Int.natCast_add]) hY
theorem wr_2 (X Y : Nat) (hX : X < 18446744073709551616) (hY : Y < 18446744073709551616) (h : (X / 4 &&& 3689348814741910323) + (X &&& 3689348814741910323) = Y) :
    IntKind.wrap .u64 ((bits .and .u64 ((X : Int) / 4) 3689348814741910323) + (bits .and .u64 (X : Int) 3689348814741910323)) = (Y : Int) := by
  have e1 : bits .and .u64 ((X : Int) / 4) 3689348814741910323 = ((X / 4 &&& 3689348814741910323 : Nat) : Int) := by
    have := bits_and_u64_nat (X / 4) 3689348814741910323 (by omega) (by omega)
    rw [← this]; rfl
  have e2 : bits .and .u64 (X : Int) 3689348814741910323 = ((X &&& 3689348814741910323 : Nat) : Int) := bits_and_u64_nat X 3689348814741910323 hX (by omega)
  rw [e1, e2]
  exact u64_id (by rw [← h, Int.natCast_add]) hY
theorem wr_3 (X Y : Nat) (hX : X < 13835058055282163712) (h : (X / 16 + X &&& 1085102592571150095) = Y) :
    bits .and .u64 (IntKind.wrap .u64 ((X : Int) / 16 + (X : Int))) 1085102592571150095 = (Y : Int) := by
  have e1 : IntKind.wrap .u64 ((X : Int) / 16 + (X : Int)) = ((X / 16 + X : Nat) : Int) := u64_id (by omega) (by omega)
  rw [e1, ← h]
  exact bits_and_u64_nat (X / 16 + X) 1085102592571150095 (by omega) (by omega)
theorem wr_4 (V : Nat) (d : Nat) (D : Int) (hD : D = (d : Int)) (h : V + V / d < 18446744073709551616) : IntKind.wrap .u64 ((V : Int) + (V : Int) / D) = ((V + V / d : Nat) : Int) :=
  u64_id (by rw [hD, dvn, Int.natCast_add]) h
theorem ones_core (x : Nat) (hx : x < 18446744073709551616) : ∃ Y Z V : Nat, Y < 18446744073709551616 ∧ (x / 2 &&& 6148914691236517205) + (x &&& 6148914691236517205) = Y ∧ Z < 13835058055282163712 ∧ (Y / 4 &&& 3689348814741910323) + (Y &&& 3689348814741910323) = Z ∧ (Z / 16 + Z &&& 1085102592571150095) = V ∧
    ∃ U T S : Nat, U = V + V / 256 ∧ T = U + U / 65536 ∧ S = T + T / 4294967296 ∧ S % 128 = Lib.popAux 64 x ∧ U < 1152921504606846976 ∧ T < 1152921504606846976 ∧ S < 1152921504606846976 := by
  obtain ⟨bs, hl, hb, hX⟩ := byt_ex 8 x hx
  have hb1 : ∀ b ∈ bs.map by1, b < 256 := fun b h => by
    obtain ⟨a, ha, rfl⟩ := List.mem_map.1 h
    exact gx1 ⟨a, hb a ha⟩
  have hb2 : ∀ b ∈ (bs.map by1).map by2, b < 256 ∧ b % 16 ≤ 4 ∧ b / 16 ≤ 4 := fun b h => by
    obtain ⟨a, ha, rfl⟩ := List.mem_map.1 h
    obtain ⟨c, hc, rfl⟩ := List.mem_map.1 ha
    exact gx2 ⟨c, hb c hc⟩
  have l1 := byt_lt (bs.map by1) hb1
  have l3 := byt_le 68 ((bs.map by1).map by2) fun b h => by
    obtain ⟨_, h1, h2⟩ := hb2 b h
    omega
  have s1 := step1 bs hb
  have s2 := step2 (bs.map by1) hb1
  have s3 := step3 ((bs.map by1).map by2) fun b h => (hb2 b h).2
  rw [List.length_map] at l1 s2
  rw [List.length_map, List.length_map] at l3 s3
  have m5 : pat 85 8 = 6148914691236517205 := by decide
  have m3 : pat 51 8 = 3689348814741910323 := by decide
  have m0 : pat 15 8 = 1085102592571150095 := by decide
  have m1 : pat 1 8 = 72340172838076673 := by decide
  have c1 : (256 : Nat) ^ 8 = 18446744073709551616 := by decide
  rw [hl, c1] at l1
  rw [hl, m1] at l3
  rw [hl, m5, hX] at s1
  rw [hl, m3] at s2
  rw [hl, m0] at s3
  have e3 : ((bs.map by1).map by2).map by3 = bs.map (Lib.popAux 8) := by
    rw [List.map_map, List.map_map]
    refine List.map_congr_left fun a ha => ?_
    exact (gx3 ⟨a, hb a ha⟩).1
  rw [e3] at s3
  have hp := pop_byt bs hb
  rw [hl, hX] at hp
  have hpl : ∀ b ∈ bs.map (Lib.popAux 8), b ≤ 8 := fun b h => by
    obtain ⟨a, ha, rfl⟩ := List.mem_map.1 h
    exact (gx3 ⟨a, hb a ha⟩).2
  obtain ⟨p0, p1, p2, p3, p4, p5, p6, p7, hps⟩ := ex8 (l := bs.map (Lib.popAux 8)) (by rw [List.length_map]; exact hl)
  rw [hps] at s3 hp hpl
  obtain ⟨r0, r1, r2, r3, r4⟩ := last_step p0 p1 p2 p3 p4 p5 p6 p7 (hpl _ (by simp)) (hpl _ (by simp)) (hpl _ (by simp)) (hpl _ (by simp)) (hpl _ (by simp)) (hpl _ (by simp)) (hpl _ (by simp)) (hpl _ (by simp)) _ _ _ (byt [p0, p1, p2, p3, p4, p5, p6, p7]) rfl rfl rfl rfl
  refine ⟨_, _, _, l1, s1, Nat.lt_of_le_of_lt l3 (by decide), s2, s3, _, _, _, rfl, rfl, rfl, ?_, r2, r3, r4⟩
  rw [r0]
  exact hp.symm
theorem ones_1 (N x : Nat) (hx : x < 18446744073709551616) : F_bits_OnesCount N (x : Int) = some (Lib.popAux 64 x : Int) := by
  obtain ⟨Y, Z, V, hY, y1, hZ, y2, y3, U, T, S, hU, hT, hS, hm, u1, u2, u3⟩ := ones_core x hx
  have z1 := wr_1 x Y hx hY y1
  have z2 := wr_2 Y Z hY (by omega) y2
  have z3 := wr_3 Z V hZ y3
  have z4 := wr_4 V 256 256 rfl (by omega)
  have z5 := wr_4 U 65536 65536 rfl (by omega)
  have z6 := wr_4 T 4294967296 4294967296 rfl (by omega)
  rw [← hU] at z4
  rw [← hT] at z5
  rw [← hS] at z6
  have q2 : (2 : Int) ^ (1 : Int).toNat = 2 := rfl
  have q4 : (2 : Int) ^ (2 : Int).toNat = 4 := rfl
  have q16 : (2 : Int) ^ (4 : Int).toNat = 16 := rfl
  have q8 : (2 : Int) ^ (8 : Int).toNat = 256 := rfl
  have q65 : (2 : Int) ^ (16 : Int).toNat = 65536 := rfl
  have q42 : (2 : Int) ^ (32 : Int).toNat = 4294967296 := rfl
  unfold F_bits_OnesCount F_bits_OnesCount64
  rw [q2, q4, q16, q8, q65, q42, z1, z2, z3, z4, z5, z6, i64_and127, ck_of (by omega) (by omega), bd_some, ← hm]
  exact congrArg some (by omega)
end Go.Proofs.Tryd
namespace Go.Proofs.Tryd
open Go.Eng

def tr : Nat → Nat → Nat
  | 0, _ => 0
  | f + 1, n => if n % 2 = 1 then tr f (n / 2) + 1 else 0
theorem tr_le : ∀ f n, tr f n ≤ Lib.popAux f n
  | 0, _ => Nat.le_refl _
  | f + 1, n => by
    have := tr_le f (n / 2)
    rw [tr, Lib.popAux]
    by_cases h : n % 2 = 1
    · rw [if_pos h]; omega
    · rw [if_neg h]; omega
theorem pop_0 : ∀ f, Lib.popAux f 0 = 0
  | 0 => rfl
  | f + 1 => by rw [Lib.popAux, pop_0 f]
theorem pop_pos : ∀ (f n : Nat), n < 2 ^ f → Lib.popAux f n = 0 → n = 0
  | 0, n, h, _ => by simp at h; exact h
  | f + 1, n, h, e => by
    rw [Lib.popAux] at e
    have := pop_pos f (n / 2) (by rw [Nat.pow_succ] at h; omega) (by omega)
    omega
theorem not_eq (n : Nat) (h : n < 2 ^ 64) : (2 ^ 64 - 1) ^^^ n = 2 ^ 64 - (n + 1) := by
  apply Nat.eq_of_testBit_eq
  intro i
  rw [Nat.testBit_xor, Nat.testBit_two_pow_sub_one, Nat.testBit_two_pow_sub_succ h]
  by_cases hi : i < 64
  · rw [decide_eq_true hi]; cases n.testBit i <;> rfl
  · have : n.testBit i = false := Nat.testBit_lt_two_pow (Nat.lt_of_lt_of_le h (Nat.pow_le_pow_right (by omega) (by omega)))
    rw [decide_eq_false hi, this]; rfl
theorem ctz_tr : ∀ (f n : Nat), n < 2 ^ f → Lib.ctzFrom f (2 ^ f - (n + 1)) = tr f n
  | 0, n, _ => rfl
  | f + 1, n, h => by
    rw [Lib.ctzFrom, tr]
    have e : 2 ^ (f + 1) = 2 * 2 ^ f := by rw [Nat.pow_succ]; omega
    rw [e] at h ⊢
    by_cases h1 : n % 2 = 1
    · rw [if_pos h1, if_neg (by omega), show (2 * 2 ^ f - (n + 1)) / 2 = 2 ^ f - (n / 2 + 1) by omega, ctz_tr f (n / 2) (by omega)]; omega
    · rw [if_neg h1, if_pos (by omega)]
theorem tab_at : ∀ k : Fin 64, 2 ^ k.val * 285870213051353865 % 18446744073709551616 / 288230376151711744 < 64 ∧ gl1[2 ^ k.val * 285870213051353865 % 18446744073709551616 / 288230376151711744]? = some (k.val : Int) := by decide +kernel
theorem tz_1 (N n : Nat) (h : n < 4611686018427387904) : F_bits_TrailingZeros N (bits .xor .u64 18446744073709551615 (IntKind.wrap .u64 (n : Int))) = some (tr 64 n : Int) := by
  have hx := bits_xor_u64_nat 18446744073709551615 n (by omega) (by omega)
  have hn := not_eq n (by have : (2 : Nat) ^ 64 = 18446744073709551616 := rfl
                          omega)
  have e64 : (2 : Nat) ^ 64 = 18446744073709551616 := rfl
  have hc := ctz_tr 64 n (by omega)
  rw [e64] at hn hc
  rw [show 18446744073709551616 - 1 = 18446744073709551615 from rfl] at hn
  rw [hn] at hx
  rw [w64 (by omega) (by omega), show (18446744073709551615 : Int) = ((18446744073709551615 : Nat) : Int) from rfl, hx]
  generalize hy : 18446744073709551616 - (n + 1) = y at *
  have hy0 : y ≠ 0 := by omega
  obtain ⟨h1, h2⟩ := Lib.lowest_bit 64 y hy0 (by omega)
  have hct : Lib.ctz 64 y = tr 64 n := by unfold Lib.ctz; rw [if_neg hy0, hc]
  rw [hct] at h1 h2
  rw [e64] at h1
  have hneg : IntKind.wrap .u64 (-(y : Int)) = ((18446744073709551616 - y : Nat) : Int) := by
    rw [IntKind.wrap_u64]; omega
  have hand := bits_and_u64_nat y (18446744073709551616 - y) (by omega) (by omega)
  rw [h1] at hand
  obtain ⟨t1, t2⟩ := tab_at ⟨tr 64 n, h2⟩
  simp only at t1 t2
  have q58 : (2 : Int) ^ (58 : Int).toNat = 288230376151711744 := rfl
  have hidx : IntKind.wrap .u64 (((2 ^ tr 64 n : Nat) : Int) * 285870213051353865) / 288230376151711744 = ((2 ^ tr 64 n * 285870213051353865 % 18446744073709551616 / 288230376151711744 : Nat) : Int) := by
    rw [IntKind.wrap_u64, show (((2 ^ tr 64 n : Nat) : Int) * 285870213051353865) = ((2 ^ tr 64 n * 285870213051353865 : Nat) : Int) by rw [Int.natCast_mul]; rfl]
    omega
  unfold F_bits_TrailingZeros F_bits_TrailingZeros64
  rw [show ((y : Int) == 0) = false by simp; omega, if_false?, hneg, hand, q58, hidx, gd_of (by omega), gd_of (by omega)]
  show bd? (get? gl1 _ _) _ = _
  unfold get?
  rw [if_pos (by omega), Int.toNat_natCast, t2]
  simp only
  rw [ck_of (by omega) (by omega), bd_some]

def fmd (p : Peaks) : Bool := decide (p.Size ≥ 0) && (decide (p.Size ≤ 1099511627776) && ((p.Tops.length : Int) == (Lib.popAux 64 p.Size.toNat : Int)))
theorem formed_1 (N : Nat) (p : Peaks) : F_merkle_isFormed N p = some (fmd p) := by
  unfold F_merkle_isFormed fmd
  by_cases h1 : p.Size ≥ 0
  · rw [show decide (p.Size ≥ 0) = true by simpa using h1, if_true?, Bool.true_and]
    by_cases h2 : p.Size ≤ 1099511627776
    · obtain ⟨n, hn⟩ : ∃ n : Nat, p.Size = (n : Int) := ⟨p.Size.toNat, by omega⟩
      rw [hn] at h2 ⊢
      rw [show decide ((n : Int) ≤ 1099511627776) = true by simpa using h2, if_true?, Bool.true_and, w64 (by omega) (by omega), ones_1 N n (by omega), bd_some, Int.toNat_natCast]
    · rw [show decide (p.Size ≤ 1099511627776) = false by simpa using h2, if_false?, Bool.false_and]
  · rw [show decide (p.Size ≥ 0) = false by simpa using h1, if_false?, Bool.false_and]

def fl (N : Nat) (T : List (Arr 16)) (x : Arr 16) : Arr 16 := T.foldr (fun t acc => nd N t acc) x
theorem fl_snoc (N : Nat) (T : List (Arr 16)) (y x : Arr 16) : fl N (T ++ [y]) x = fl N T (nd N y x) := by
  unfold fl; rw [List.foldr_append]; rfl
theorem take_snoc {α : Type} (l : List α) (i : Nat) (h : i < l.length) : l.take (i + 1) = l.take i ++ [l[i]] := by
  rw [List.take_add_one, List.getElem?_eq_getElem h]; rfl
theorem clone_eq (N : Nat) (p : List (Arr 16)) (h : p.length ≤ 1000000) : F_slices_Clone_Digest_Digest N p = some p := by
  unfold F_slices_Clone_Digest_Digest
  cases p with
  | nil => rfl
  | cons x p => rw [show (x :: p).isEmpty = false from rfl, if_false?, gd_of (by omega)]
/-- The peaks with one more element. -/
def ap (N t : Nat) (T : List (Arr 16)) (x : Arr 16) : List (Arr 16) := T.take (T.length - t) ++ [fl N (T.drop (T.length - t)) x]
theorem app_1 (N : Nat) (hN : 100 ≤ N) (p : Peaks) (v2 : Int) (v3 : List (Arr 16)) (hp : p.Tops.length ≤ 100000) (hs : -10 ≤ p.Size ∧ p.Size ≤ 1099511627776) (hv : v3.length ≤ 100000) : ∀ (i m : Nat) (x : Arr 16), i ≤ v3.length → i < m →
    L_merkle_Append_0 N p v2 v3 m ((i : Int) - 1) x = some (Peaks.mk (p.Size + 1) (p.Tops.take ((p.Tops.length : Int) - v2).toNat ++ [fl N (v3.take i) x]), 0)
  | i, 0, x, _, h => by omega
  | 0, m + 1, x, _, _ => by
    rw [L_merkle_Append_0, show decide (((0 : Nat) : Int) - 1 ≥ 0) = false by decide, if_false?, ck_of (by omega) (by omega), Nat.sub_zero, clone_eq N _ (by rw [List.length_take]; omega), bd_some, gd_of (by simp only [List.length_take, List.length_cons, List.length_nil]; omega)]
    rfl
  | i + 1, m + 1, x, hi, hm => by
    rw [L_merkle_Append_0, show ((i + 1 : Nat) : Int) - 1 = (i : Int) by omega, show decide ((i : Int) ≥ 0) = true by rw [decide_eq_true_eq]; omega, if_true?, get_of (by omega), node_1 N hN, bd_some, ck_of (by omega) (by omega), app_1 N hN p v2 v3 hp hs hv i m _ (by omega) (by omega), take_snoc v3 i (by omega), fl_snoc]
theorem append_1 (N : Nat) (hN : 100 ≤ N) (n : Nat) (T : List (Arr 16)) (x : Arr 16) (hn : n < 1099511627776) (hT : T.length = Lib.popAux 64 n) (hb : T.length < N) (hb' : T.length ≤ 1000) : F_merkle_Append N (Peaks.mk (n : Int) T) x = some (Peaks.mk ((n + 1 : Nat) : Int) (ap N (tr 64 n) T x), 0) := by
  have hf : fmd (Peaks.mk (n : Int) T) = true := by
    unfold fmd
    simp only [Int.toNat_natCast, hT, beq_self_eq_true, Bool.and_true, Bool.and_eq_true, decide_eq_true_eq]
    omega
  have ht := tr_le 64 n
  unfold F_merkle_Append
  rw [formed_1, hf, bd_some, if_true?]
  simp only
  rw [show ((n : Int) == 1099511627776) = false by simp; omega, if_false?, tz_1 N n (by omega), bd_some, ck_of (by omega) (by omega), gd_of (by omega), gd_of (by omega)]
  unfold F_slices_Backward_Digest_Digest
  rw [bd_some, show ((T.length : Int) - ((tr 64 n : Nat) : Int)).toNat = T.length - tr 64 n by omega, same_len, List.length_drop, show T.length - (T.length - tr 64 n) = tr 64 n by omega, ck_of (by omega) (by omega)]
  have h := app_1 N hN (Peaks.mk (n : Int) T) (tr 64 n : Int) (T.drop (T.length - tr 64 n)) (by show T.length ≤ _; omega) (by show -10 ≤ (n : Int) ∧ (n : Int) ≤ _; omega) (by rw [List.length_drop]; omega) (tr 64 n) N x (by rw [List.length_drop]; omega) (by omega)
  rw [h]
  simp only
  rw [show ((T.length : Int) - ((tr 64 n : Nat) : Int)).toNat = T.length - tr 64 n by omega, List.take_of_length_le (i := tr 64 n) (l := T.drop (T.length - tr 64 n)) (by rw [List.length_drop]; omega)]
  rfl

theorem top_l1 (N : Nat) (hN : 100 ≤ N) (v : List (Arr 16)) (hv : v.length ≤ 100000) : ∀ (i m : Nat) (x : Arr 16), i ≤ v.length → i < m → L_merkle_Top_0 N v m ((i : Int) - 1) x = some (fl N (v.take i) x, 0)
  | i, 0, x, _, h => by omega
  | 0, m + 1, x, _, _ => by
    rw [L_merkle_Top_0, show decide (((0 : Nat) : Int) - 1 ≥ 0) = false by decide, if_false?]; rfl
  | i + 1, m + 1, x, hi, hm => by
    rw [L_merkle_Top_0, show ((i + 1 : Nat) : Int) - 1 = (i : Int) by omega, show decide ((i : Int) ≥ 0) = true by rw [decide_eq_true_eq]; omega, if_true?, get_of (by omega), node_1 N hN, bd_some, ck_of (by omega) (by omega), top_l1 N hN v hv i m _ (by omega) (by omega), take_snoc v i (by omega), fl_snoc]
/-- The root that peaks stand for. -/
def tp (N : Nat) (T : List (Arr 16)) : Arr 16 := if T.length = 0 then emp N else fl N (T.take (T.length - 1)) (T.getD (T.length - 1) default)
theorem top_1 (N : Nat) (hN : 100 ≤ N) (n : Nat) (T : List (Arr 16)) (hn : n ≤ 1099511627776) (hT : T.length = Lib.popAux 64 n) (hb : T.length < N) (hb' : T.length ≤ 1000) : F_merkle_Top N (Peaks.mk (n : Int) T) = some (tp N T, 0) := by
  have hf : fmd (Peaks.mk (n : Int) T) = true := by
    unfold fmd
    simp only [Int.toNat_natCast, hT, beq_self_eq_true, Bool.and_true, Bool.and_eq_true, decide_eq_true_eq]
    omega
  unfold F_merkle_Top tp
  rw [formed_1, hf, bd_some, if_true?]
  simp only
  by_cases h0 : T.length = 0
  · rw [if_pos h0, show ((T.length : Int) == 0) = true by rw [h0]; rfl, if_true?, emp_1 N hN, bd_some]
  · rw [if_neg h0, show ((T.length : Int) == 0) = false by simp; intro h; rw [h] at h0; exact h0 rfl, if_false?, ck_of (by omega) (by omega), show (T.length : Int) - 1 = ((T.length - 1 : Nat) : Int) by omega, get_of (by omega), gd_of (by omega), Int.toNat_natCast, gd_of (by omega), Nat.sub_zero]
    unfold F_slices_Backward_Digest_Digest
    rw [bd_some, List.length_take, Nat.min_eq_left (by omega), ck_of (by omega) (by omega), top_l1 N hN (T.take (T.length - 1)) (by rw [List.length_take]; omega) (T.length - 1) N _ (by rw [List.length_take]; omega) (by omega), List.take_take, Nat.min_self, List.getD_eq_getElem?_getD, List.getElem?_eq_getElem (by omega)]
    rfl
end Go.Proofs.Tryd
namespace Go.Proofs.Tryd
open Go.Eng

theorem rt_nil' (N : Nat) (hN : 100 ≤ N) : rt N [] = emp N := by
  have h := rt_any N hN 1 [] (by simp) (by simp; omega) (by simp)
  have e : F_merkle_Root_r N 1 [] = bd? (F_merkle_empty N) fun v1 => some v1 := rfl
  rw [e, emp_1 N hN] at h
  exact (Option.some.inj h).symm
def pk (N : Nat) : Nat → List (Arr 16) → List (Arr 16)
  | 0, _ => []
  | j + 1, l => if l.length < 2 ^ j then pk N j l else rt N (l.take (2 ^ j)) :: pk N j (l.drop (2 ^ j))
theorem pk_lt {N j : Nat} {l : List (Arr 16)} (h : l.length < 2 ^ j) : pk N (j + 1) l = pk N j l := by rw [pk, if_pos h]
theorem pk_ge {N j : Nat} {l : List (Arr 16)} (h : 2 ^ j ≤ l.length) : pk N (j + 1) l = rt N (l.take (2 ^ j)) :: pk N j (l.drop (2 ^ j)) := by rw [pk, if_neg (by omega)]
theorem p2 (j : Nat) : 2 ^ (j + 1) = 2 * 2 ^ j := by rw [Nat.pow_succ]; omega
theorem pop_more : ∀ (k n f : Nat), n < 2 ^ k → Lib.popAux (k + f) n = Lib.popAux k n := fun k n f h => by
  have h1 := pop_cut k f n 0 h
  rw [Nat.mul_zero, Nat.add_zero, pop_0 f] at h1
  exact h1
theorem pk_len (N : Nat) : ∀ (j : Nat) (l : List (Arr 16)), l.length < 2 ^ j → (pk N j l).length = Lib.popAux j l.length
  | 0, l, h => rfl
  | j + 1, l, h => by
    by_cases h1 : l.length < 2 ^ j
    · rw [pk_lt h1, pk_len N j l h1]
      exact (pop_more j l.length 1 h1).symm
    · rw [p2] at h
      have e := pop_cut j 1 (l.length - 2 ^ j) 1 (by omega)
      rw [Nat.mul_one, show l.length - 2 ^ j + 2 ^ j = l.length by omega, show Lib.popAux 1 1 = 1 from rfl] at e
      rw [pk_ge (by omega), List.length_cons, pk_len N j (l.drop (2 ^ j)) (by rw [List.length_drop]; omega), List.length_drop, e]
theorem pk_nil (N : Nat) : ∀ j, pk N j [] = []
  | 0 => rfl
  | j + 1 => by rw [pk_lt (by exact Nat.two_pow_pos j), pk_nil N j]
theorem tp_cons (N : Nat) (a : Arr 16) (T : List (Arr 16)) (h : T ≠ []) : tp N (a :: T) = nd N a (tp N T) := by
  have hl : T.length ≠ 0 := fun e => h (List.eq_nil_of_length_eq_zero e)
  unfold tp
  rw [if_neg (by simp), if_neg hl, List.length_cons, Nat.add_sub_cancel]
  obtain ⟨k, hk⟩ : ∃ k, T.length = k + 1 := ⟨T.length - 1, by omega⟩
  rw [hk, List.take_succ_cons, Nat.add_sub_cancel, List.getD_cons_succ]
  rfl
theorem pk_top (N : Nat) (hN : 100 ≤ N) : ∀ (j : Nat) (l : List (Arr 16)), l.length < 2 ^ j → j ≤ 30 → l.length < N → l.length ≤ 100000 → tp N (pk N j l) = rt N l
  | 0, l, h, _, _, _ => by
    have : l = [] := List.eq_nil_of_length_eq_zero (by simpa using h)
    rw [this, rt_nil' N hN]; rfl
  | j + 1, l, h, hj, hn, hb => by
    by_cases h1 : l.length < 2 ^ j
    · rw [pk_lt h1]; exact pk_top N hN j l h1 (by omega) hn hb
    · rw [p2] at h
      have hpos := Nat.two_pow_pos j
      rw [pk_ge (by omega)]
      by_cases h2 : l.length = 2 ^ j
      · rw [List.drop_of_length_le (by omega), pk_nil, ← h2, List.take_length]
        unfold tp fl
        rfl
      · have hd : (l.drop (2 ^ j)).length = l.length - 2 ^ j := List.length_drop
        have ih := pk_top N hN j (l.drop (2 ^ j)) (by omega) (by omega) (by omega) (by omega)
        have hne : pk N j (l.drop (2 ^ j)) ≠ [] := fun e => by
          have h3 := pk_len N j (l.drop (2 ^ j)) (by omega)
          rw [e] at h3
          have := pop_pos j _ (show (l.drop (2 ^ j)).length < 2 ^ j by omega) h3.symm
          omega
        rw [tp_cons N _ _ hne, ih, rt_step N hN l (by omega) hn (by omega), sp_is l.length j (by omega) (by omega) (by omega)]

theorem tr_full : ∀ (j f : Nat), j ≤ f → tr f (2 ^ j - 1) = j
  | 0, f, _ => by
    cases f with
    | zero => rfl
    | succ f => rfl
  | j + 1, f, h => by
    obtain ⟨f', rfl⟩ : ∃ f', f = f' + 1 := ⟨f - 1, by omega⟩
    have hpos := Nat.two_pow_pos j
    rw [tr, p2, if_pos (by omega), show (2 * 2 ^ j - 1) / 2 = 2 ^ j - 1 by omega, tr_full j f' (by omega)]
theorem tr_add : ∀ (j f m : Nat), j ≤ f → m + 1 < 2 ^ j → tr f (2 ^ j + m) = tr f m
  | 0, f, m, _, h => by simp at h
  | j + 1, f, m, hf, h => by
    obtain ⟨f', rfl⟩ : ∃ f', f = f' + 1 := ⟨f - 1, by omega⟩
    rw [p2] at h ⊢
    rw [tr, tr]
    by_cases h1 : m % 2 = 1
    · rw [if_pos (by omega), if_pos h1, show (2 * 2 ^ j + m) / 2 = 2 ^ j + m / 2 by omega, tr_add j f' (m / 2) (by omega) (by omega)]
    · rw [if_neg (by omega), if_neg h1]
theorem fl_cons (N : Nat) (a : Arr 16) (T : List (Arr 16)) (x : Arr 16) : fl N (a :: T) x = nd N a (fl N T x) := rfl
theorem pk_full (N : Nat) (hN : 100 ≤ N) (x : Arr 16) : ∀ (j : Nat) (l : List (Arr 16)), l.length + 1 = 2 ^ j → j ≤ 30 → l.length + 1 < N → l.length ≤ 10000 → fl N (pk N j l) x = rt N (l ++ [x]) ∧ (pk N j l).length = j
  | 0, l, h, _, _, _ => by
    have : l = [] := List.eq_nil_of_length_eq_zero (by simpa using h)
    rw [this]
    exact ⟨(rt_one N hN x).symm, rfl⟩
  | j + 1, l, h, hj, hn, hb => by
    have hpos := Nat.two_pow_pos j
    rw [p2] at h
    have hd : (l.drop (2 ^ j)).length = l.length - 2 ^ j := List.length_drop
    have ht : (l.take (2 ^ j)).length = 2 ^ j := by rw [List.length_take]; omega
    obtain ⟨a, b⟩ := pk_full N hN x j (l.drop (2 ^ j)) (by omega) (by omega) (by omega) (by omega)
    by_cases h0 : 2 ^ j ≤ l.length
    · rw [pk_ge h0, fl_cons, List.length_cons, a, b]
      have hl : (l ++ [x]).length = 2 * 2 ^ j := by rw [List.length_append, List.length_cons, List.length_nil]; omega
      have hs := sp_is (2 * 2 ^ j) j (by omega) (by omega) (by omega)
      rw [rt_step N hN (l ++ [x]) (by omega) (by omega) (by omega), hl, hs, List.take_append_of_le_length h0, List.drop_append_of_le_length h0]
      exact ⟨rfl, rfl⟩
    · omega
theorem ap_cons (N t : Nat) (a : Arr 16) (T : List (Arr 16)) (x : Arr 16) (h : t ≤ T.length) : ap N t (a :: T) x = a :: ap N t T x := by
  unfold ap
  rw [List.length_cons, show T.length + 1 - t = (T.length - t) + 1 by omega, List.take_succ_cons, List.drop_succ_cons]; rfl
theorem pk_app (N : Nat) (hN : 100 ≤ N) (x : Arr 16) : ∀ (j : Nat) (l : List (Arr 16)), l.length + 1 < 2 ^ j → j ≤ 30 → l.length + 1 < N → l.length ≤ 10000 → ap N (tr 64 l.length) (pk N j l) x = pk N j (l ++ [x])
  | 0, l, h, _, _, _ => by simp at h
  | j + 1, l, h, hj, hn, hb => by
    have hpos := Nat.two_pow_pos j
    have hl : (l ++ [x]).length = l.length + 1 := by rw [List.length_append, List.length_cons, List.length_nil]
    rw [p2] at h
    by_cases h1 : l.length < 2 ^ j
    · rw [pk_lt h1]
      by_cases h2 : l.length + 1 < 2 ^ j
      · rw [pk_lt (by omega)]
        exact pk_app N hN x j l h2 (by omega) hn hb
      · obtain ⟨a, b⟩ := pk_full N hN x j l (by omega) (by omega) hn hb
        have ht := tr_full j 64 (by omega)
        rw [show 2 ^ j - 1 = l.length by omega] at ht
        rw [ht, pk_ge (by omega), List.take_of_length_le (by omega), List.drop_of_length_le (by omega), pk_nil]
        unfold ap
        rw [b, Nat.sub_self, List.take_zero, List.drop_zero, a]; rfl
    · have hd : (l.drop (2 ^ j)).length = l.length - 2 ^ j := List.length_drop
      have ih := pk_app N hN x j (l.drop (2 ^ j)) (by omega) (by omega) (by omega) (by omega)
      have ht := tr_add j 64 (l.length - 2 ^ j) (by omega) (by omega)
      rw [show 2 ^ j + (l.length - 2 ^ j) = l.length by omega] at ht
      have hp := pk_len N j (l.drop (2 ^ j)) (by omega)
      have hle := tr_le 64 (l.length - 2 ^ j)
      have hm := pop_more j (l.length - 2 ^ j) (64 - j) (by omega)
      rw [show j + (64 - j) = 64 by omega] at hm
      rw [hd] at hp ih
      rw [pk_ge (by omega), pk_ge (l := l ++ [x]) (by omega), ht, ap_cons N _ _ _ x (by omega), ih, List.take_append_of_le_length (by omega), List.drop_append_of_le_length (by omega)]

theorem grow_0 (N : Nat) (hN : 2000 ≤ N) (l : List (Arr 16)) (hb : l.length ≤ 40) : ∀ (k m i : Nat), i + k = l.length → k < m → L_law03_MerklePeaksGrow_0 N l m (i : Int) (i : Int) (pk N 6 (l.take i)) = some true
  | k, 0, i, _, h => by omega
  | k, m + 1, i, hk, hm => by
    have h6 : (2 : Nat) ^ 6 = 64 := rfl
    have hti : (l.take i).length = i := by rw [List.length_take]; omega
    have hpl := pk_len N 6 (l.take i) (by omega)
    rw [hti] at hpl
    have hpm := pop_more 6 i 58 (by omega)
    have hpl64 : (pk N 6 (l.take i)).length = Lib.popAux 64 i := hpl.trans hpm.symm
    have hple : (pk N 6 (l.take i)).length ≤ 6 := by
      rw [hpl]
      have hle : ∀ f n, Lib.popAux f n ≤ f := fun f => by
        induction f with
        | zero => intro n; exact Nat.le_refl _
        | succ f ih => intro n; rw [Lib.popAux]; have := ih (n / 2); omega
      exact hle 6 i
    have ht := top_1 N (by omega) i (pk N 6 (l.take i)) (by omega) hpl64 (by omega) (by omega)
    have hr := pk_top N (by omega) 6 (l.take i) (by omega) (by omega) (by omega) (by omega)
    have hrt := rt_1 N (by omega) (l.take i) (by omega) (by omega)
    rw [hr] at ht
    rw [L_law03_MerklePeaksGrow_0, show decide ((i : Int) ≤ (l.length : Int)) = true by rw [decide_eq_true_eq]; omega, if_true?, ht, bd_some, show (((0 : Int) != 0)) = false from rfl, if_false?, gd_of (by omega), Int.toNat_natCast, gd_of (by omega), Nat.sub_zero, hrt, bd_some, beq_self_eq_true, if_true?, show ((i : Int) != (i : Int)) = false by simp, if_false?]
    by_cases h1 : i = l.length
    · rw [show ((i : Int) == (l.length : Int)) = true by rw [h1]; simp, if_true?, sanity_eq N (by omega)]; rfl
    · have ha := append_1 N (by omega) i (pk N 6 (l.take i)) l[i] (by omega) hpl64 (by omega) (by omega)
      have hap := pk_app N (by omega) l[i] 6 (l.take i) (by omega) (by omega) (by omega) (by omega)
      rw [hti] at hap
      rw [hap, ← take_snoc l i (by omega)] at ha
      rw [show ((i : Int) == (l.length : Int)) = false from beq_false_of_ne (by omega), if_false?, gd_of (by omega), get_of (by omega), ha, bd_some, show (((0 : Int) != 0)) = false from rfl, if_false?, same_eq N _ (by omega) (by omega), bd_some, if_true?, ck_of (by omega) (by omega), cast_succ]
      exact grow_0 N hN l hb (k - 1) m (i + 1) (by omega) (by omega)
theorem law8_eq (N : Nat) (hN : 2000 ≤ N) (l : List (Arr 16)) : F_law03_MerklePeaksGrow N l = some true := by
  unfold F_law03_MerklePeaksGrow
  by_cases h1 : (l.length : Int) > 40
  · rw [show decide ((l.length : Int) > 40) = true by simpa using h1, if_true?, sanity_eq N (by omega)]; rfl
  · rw [show decide ((l.length : Int) > 40) = false by simpa using h1, if_false?]
    have h := grow_0 N hN l (by omega) l.length N 0 (by omega) (by omega)
    rw [List.take_zero, pk_nil] at h
    exact h
end Go.Proofs.Tryd
namespace Go.Proofs.Tryd
open Go.Eng Go.RowKit Go.ChangeShapes Go.WideShapes Go.ChangeAt
theorem okWide_slice {P : Program} {w : World} {r : Reach} {base : Nat} {t e : TypeId} {v : Value} (ht : P.underlying t = some (.slice e)) (h : Value.okWide P w r base t v) : ∃ b l c, v = .slice b l c := by
  simp only [Value.okWide, ht, Cell.okWide] at h
  cases v <;> simp_all [Cell.ok]
end Go.Proofs.Tryd
namespace Go.Proofs.YtjhhgpencphgoaaDoor
open Go.Eng Go.RowKit Go.ChangeShapes Go.WideShapes Go.ChangeAt
theorem Tryd.own : ownKnob Tryd.prog.godebug = none := by kernel_rfl
theorem Tryd.laidOut : laidOutB Tryd.prog = true := by kernel_rfl
theorem Tryd.g0 : Tryd.prog.globalNamed "math/bits.deBruijn32tab" = some 0 := by kernel_rfl
theorem Tryd.gt0 : (Tryd.prog.globals[0]?).map (·.type) = some 209 := by kernel_rfl
theorem Tryd.g1 : Tryd.prog.globalNamed "math/bits.deBruijn64tab" = some 1 := by kernel_rfl
theorem Tryd.gt1 : (Tryd.prog.globals[1]?).map (·.type) = some 203 := by kernel_rfl
theorem Tryd.g4 : Tryd.prog.globalNamed "rivermark/rivermarkref02.constants" = some 4 := by kernel_rfl
theorem Tryd.gt4 : (Tryd.prog.globals[4]?).map (·.type) = some 238 := by kernel_rfl
theorem Tryd.g3 : Tryd.prog.globalNamed "rivermark/hash.constants" = some 3 := by kernel_rfl
theorem Tryd.gt3 : (Tryd.prog.globals[3]?).map (·.type) = some 238 := by kernel_rfl
/-- A world in which the listed variables hold what the row says. -/
noncomputable def laidWorld (os : Os) : World :=
  { World.holding Tryd.prog os ⟨#[], #[], []⟩ with heap := (((((World.holding Tryd.prog os ⟨#[], #[], []⟩).heap.modify 0 fun
      | .cells _ t frozen => .cells (gl0.map fun z => Value.int .u8 z).toArray t frozen
      | o => o).modify 1 fun
      | .cells _ t frozen => .cells (gl1.map fun z => Value.int .u8 z).toArray t frozen
      | o => o).modify 4 fun
      | .cells _ t frozen => .cells (gl4.map fun z => Value.int .u32 z).toArray t frozen
      | o => o).modify 3 fun
      | .cells _ t frozen => .cells (gl3.map fun z => Value.int .u32 z).toArray t frozen
      | o => o) }
theorem laid_met (os : Os) (args : Array Value) : laidMet Tryd.prog Rows.merklePeaksGrowRow.laid ((laidWorld os).forCall (fun _ _ => 0) ⟨#[], args, []⟩).memory :=
  laidMet_of_run' 8 (by kernel_rfl) (by kernel_rfl)
theorem glOk {W : World} (hL : laidMet Tryd.prog [("math/bits.deBruijn32tab", Lib.tabData .u8 gl0), ("math/bits.deBruijn64tab", Lib.tabData .u8 gl1), ("rivermark/rivermarkref02.constants", Lib.tabData .u32 gl4), ("rivermark/hash.constants", Lib.tabData .u32 gl3)] W) : GlOk (gOf W) := by
  have t0 := glOk_tab (Lib.tabIs_of_head Tryd.g0 Tryd.gt0 Tryd.underlying209 Tryd.underlying5 (by kernel_rfl) (by kernel_rfl) hL) Tryd.g0
  have l0 := laidMet.tail hL
  have t1 := glOk_tab (Lib.tabIs_of_head Tryd.g1 Tryd.gt1 Tryd.underlying203 Tryd.underlying5 (by kernel_rfl) (by kernel_rfl) l0) Tryd.g1
  have l1 := laidMet.tail l0
  have t4 := glOk_tab (Lib.tabIs_of_head Tryd.g4 Tryd.gt4 Tryd.underlying238 Tryd.underlying201 (by kernel_rfl) (by kernel_rfl) l1) Tryd.g4
  have l2 := laidMet.tail l1
  have t3 := glOk_tab (Lib.tabIs_of_head Tryd.g3 Tryd.gt3 Tryd.underlying238 Tryd.underlying201 (by kernel_rfl) (by kernel_rfl) l2) Tryd.g3
  intro g ds h
  unfold glOf at h
  split at h
  · cases h; exact t0
  · cases h; exact t1
  · cases h; exact t3
  · cases h; exact t4
  · cases h
set_option maxRecDepth 100000 in
theorem grow_lifted (hc : ∀ (x0 : (List (Arr 16))), (x0.length ≤ 9223372036854775807 ∧ ∀ y ∈ x0, (fun y : (Arr 16) => ∀ z ∈ y.l, IntKind.min .u8 ≤ z ∧ z ≤ IntKind.max .u8) y) →  ACall Tryd.prog 8 [.D (.L (x0.map (rA .u8)))] [] (.D (.B true)) [] [])
    (os : Os) (started : os.Started) (H : Type) (enc : TypeId × Value → H) :
    ReturnsInHanded {} Tryd.checked os 8 .any (fun w args => (Rows.merklePeaksGrowSpec.pre enc Tryd.prog Tryd.f8 Rows.merklePeaksGrowRow.domain false w args ∧ laidMet Tryd.prog Rows.merklePeaksGrowRow.laid w) ∧ sizedMet enc Tryd.prog Tryd.f8 (OpenSpec.ofChange Rows.merklePeaksGrowSpec) false w args) (Rows.merklePeaksGrowSpec.post enc Tryd.prog Tryd.f8 false true false false) := by
  refine returnsInHanded_of_change_and (C := Tryd.checked) (X := fun w _ => laidMet Tryd.prog Rows.merklePeaksGrowRow.laid w) (fun _ _ _ hh h => laidMet.of_heap hh h) Tryd.own started (by kernel_rfl) Tryd.func8
    (ChangeSpec.witness_at (enc := enc) (C := Tryd.checked) (os := os) (X := fun w _ => laidMet Tryd.prog Rows.merklePeaksGrowRow.laid w) false (laidWorld os) #[.slice none 0 0] 8 rfl (by kernel_rfl) (by kernel_rfl) (by kernel_rfl) (by kernel_rfl) (by kernel_rfl) (laid_met os _)) ?_
  intro W base args ds gs before hval0 hW _ _ hL _
  have hval : ∀ (j : Nat) t v, Tryd.f8.params[j]? = some t → args[j]? = some v → Value.okWide Tryd.prog W .any base t v := hval0
  have hW' := hW
  obtain ⟨p, q, hA0, hV, rfl, hfz, hnd⟩ := hW
  have hA : DataW.TrodAll enc Tryd.prog W 0 (fun _ => true) true Tryd.f8.params.toList args.toList ds p := hA0
  rw [Tryd.params8] at hA hval
  obtain ⟨v0, vs1, d0, ds1, p0, p1, e0, rfl, _, t0, hA1⟩ := trodAll_cons hA
  obtain ⟨rfl, rfl, _⟩ := trodAll_nil hA1
  obtain ⟨rfl, rfl⟩ := trodVars_none hV
  have hargs : args = #[v0] := by rw [← Array.toArray_toList (xs := args), e0]
  subst hargs
  obtain ⟨w0, l0, k0_, rfl⟩ := Go.Proofs.Tryd.okWide_slice Tryd.underlying22 (hval 0 22 v0 rfl rfl)
  obtain ⟨f0, t0⟩ := t0
  obtain ⟨x0, k0, r0⟩ := (Cv.slice (Cv.array Tryd.underlying5 (by kernel_rfl) Tryd.underlying31 (by kernel_rfl)) (by decide) Tryd.underlying22 (by kernel_rfl)).get enc W _ _ f0 _ _ t0
  have hrep : AV.RepL (gOf W) (fun _ => none) [.D (.L (x0.map (rA .u8)))] [.slice w0 l0 k0_] := by
    unfold AV.RepL
    refine ⟨_, _, rfl, crep_one r0 rfl, ?_⟩
    unfold AV.RepL; rfl
  refine (law_calls ⟨Tryd.f8, Tryd.func8, by kernel_rfl, by kernel_rfl⟩ (glOk hL) (vs := #[.slice w0 l0 k0_]) (hc x0 k0) hrep).mono fun e W' ⟨he, hb⟩ => ?_
  exact ⟨_, he, law_post (tb := 4) Tryd.laidOut hW' rfl rfl (by rfl) Tryd.underlying4 (by rw [Tryd.params8]; decide +kernel) hb⟩
theorem grow_holds (hc : ∀ (x0 : (List (Arr 16))), (x0.length ≤ 9223372036854775807 ∧ ∀ y ∈ x0, (fun y : (Arr 16) => ∀ z ∈ y.l, IntKind.min .u8 ≤ z ∧ z ≤ IntKind.max .u8) y) →  ACall Tryd.prog 8 [.D (.L (x0.map (rA .u8)))] [] (.D (.B true)) [] []) : Rows.MerklePeaksGrowSaid :=
  OpenClaim.holds_of_wide 8 Tryd.f8 rfl rfl rfl rfl rfl rfl rfl ⟨rfl, rfl, rfl, rfl, rfl⟩ rfl rfl rfl rfl rfl (by kernel_rfl) Tryd.func8 (by kernel_rfl)
    (of_decide_eq_true (by kernel_rfl)) (by unfold Func.isWrapper; first | (rw [if_pos (by decide +kernel)]; kernel_rfl) | (rw [if_neg (by decide +kernel)]; exact ⟨rfl, rfl⟩))
    (fun os started H enc _ => grow_lifted hc os started H enc)
theorem grow_said : Rows.MerklePeaksGrowSaid := grow_holds fun x0 _ => Go.Proofs.Tryd.c_law03_MerklePeaksGrow 2000 x0 true (Go.Proofs.Tryd.law8_eq 2000 (by omega) x0)
theorem grow_card : Rows.MerklePeaksGrowCardSaid :=
  Claim7.holds_tied_plain_at .later [] [.data, .data, .data, .data] true (true, "81ac52f078b63a2afad7e3117cff2836913e2444110d93355cacfc2370b8fad1") true grow_said (fun _ h => by cases h) (by kernel_rfl) (fun _ h => by cases h) merklePeaksGrow_row_tie rfl ⟨rfl, rfl⟩ (by kernel_rfl) rfl
    (fun f fn hf hfn => by
      obtain rfl : f = 8 := Option.some.inj ((show Tryd.prog.funcNamed "rivermark/rivermarklaw03.MerklePeaksGrow" = some 8 by kernel_rfl).symm.trans hf) |>.symm
      obtain rfl : fn = Tryd.f8 := (Option.some.inj (Tryd.func8.symm.trans hfn)).symm
      exact ⟨by kernel_rfl, fun j t ht => by
        rw [Tryd.params8] at ht
        have hm : t ∈ [22] := by
          obtain ⟨hj, e⟩ := Array.getElem?_eq_some_iff.1 ht
          rw [← e]
          exact Array.getElem_mem_toList hj
        have ha : ∀ t ∈ [22], Tryd.prog.wantsStandIn t = false := by decide +kernel
        exact ha t hm⟩)
    (by kernel_rfl)
end Go.Proofs.YtjhhgpencphgoaaDoor
