/- For every input that the row takes, MerkleProofsBind answers true and leaves its arguments as they were. No condition but the row's own. -/
import Derived.Test.YtjhhgpencphgoaaDoorL6G2
import Derived.Test.YtjhhgpencphgoaaDoorP1
import Derived.Laws.Bits64
import Derived.Lib.EndianBits
import Derived.Lib.Varint
import Derived.Lib.BitFns
import Derived.KernelRfl
import Derived.Test.YtjhhgpencphgoaaDoorE32
import Derived.Test.YtjhhgpencphgoaaDoorRows
import Derived.Test.YtjhhgpencphgoaaDoorCards
import Derived.Test.YtjhhgpencphgoaaDoorTie
import Derived.SevenTiedAt
import Derived.LaidLaws
import Derived.Stop.LaidErr
set_option linter.unusedSimpArgs false
set_option linter.unusedVariables false
namespace Go.Proofs.Tryd
open Go.Eng

theorem bits_or_comm (k : IntKind) (x y : Int) : bits .or k x y = bits .or k y x := by
  show k.wrap ((BitVec.ofInt k.bits x ||| BitVec.ofInt k.bits y).toNat : Int) = k.wrap ((BitVec.ofInt k.bits y ||| BitVec.ofInt k.bits x).toNat : Int)
  rw [BitVec.or_comm]
theorem bits_xor_comm (k : IntKind) (x y : Int) : bits .xor k x y = bits .xor k y x := by
  show k.wrap ((BitVec.ofInt k.bits x ^^^ BitVec.ofInt k.bits y).toNat : Int) = k.wrap ((BitVec.ofInt k.bits y ^^^ BitVec.ofInt k.bits x).toNat : Int)
  rw [BitVec.xor_comm]
theorem get_arr {n : Nat} {β : Type} (x : Arr n) {j : Int} {f : Int → Option β} (h0 : 0 ≤ j) (h : j < n) : get? x.l j f = f (x.l.getD j.toNat 0) := by
  have h' : j.toNat < x.l.length := by rw [x.len]; omega
  rw [get_int h0 h', List.getD_eq_getElem?_getD, List.getElem?_eq_getElem h']; rfl
theorem get_0 {α β : Type} {a : α} {l : List α} {f : α → Option β} : get? (a :: l) 0 f = f a := rfl
theorem get_1 {α β : Type} {a b : α} {l : List α} {f : α → Option β} : get? (a :: b :: l) 1 f = f b := rfl
theorem get_2 {α β : Type} {a b c : α} {l : List α} {f : α → Option β} : get? (a :: b :: c :: l) 2 f = f c := rfl
theorem get_3 {α β : Type} {a b c d : α} {l : List α} {f : α → Option β} : get? (a :: b :: c :: d :: l) 3 f = f d := rfl
theorem get_4 {α β : Type} {a b c d e : α} {l : List α} {f : α → Option β} : get? (a :: b :: c :: d :: e :: l) 4 f = f e := rfl
theorem get_5 {α β : Type} {a b c d e g : α} {l : List α} {f : α → Option β} : get? (a :: b :: c :: d :: e :: g :: l) 5 f = f g := rfl
theorem get_6 {α β : Type} {a b c d e g h : α} {l : List α} {f : α → Option β} : get? (a :: b :: c :: d :: e :: g :: h :: l) 6 f = f h := rfl
theorem get_7 {α β : Type} {a b c d e g h i : α} {l : List α} {f : α → Option β} : get? (a :: b :: c :: d :: e :: g :: h :: i :: l) 7 f = f i := rfl
theorem set_set {n : Nat} (x : Arr n) (i : Nat) (a b : Int) : (x.set i a).set i b = x.set i b := Arr.ext (by rw [Arr.l_set, Arr.l_set, Arr.l_set, List.set_set])
theorem getD_set {n : Nat} (x : Arr n) (i : Nat) (a : Int) (h : i < n) : (x.set i a).l.getD i 0 = a := by
  rw [Arr.l_set, List.getD_eq_getElem?_getD, List.getElem?_set_self (by rw [x.len]; exact h)]; rfl
theorem getD_set_ne {n : Nat} (x : Arr n) (i j : Nat) (a : Int) (h : i ≠ j) : (x.set i a).l.getD j 0 = x.l.getD j 0 := by
  rw [Arr.l_set, List.getD_eq_getElem?_getD, List.getElem?_set_ne h, List.getD_eq_getElem?_getD]

theorem getD_rep (j n : Nat) : (List.replicate n (0 : Int)).getD j 0 = 0 := by
  rw [List.getD_eq_getElem?_getD, List.getElem?_replicate]
  split <;> rfl

/-- All are bytes. -/
def Byt (l : List Int) : Prop := ∀ x ∈ l, 0 ≤ x ∧ x < 256

def ror (x n : Int) : Int := bits .or .u32 (x / 2 ^ n.toNat) (IntKind.wrap .u32 (x * 2 ^ (32 - n).toNat))
theorem rotr_eq (N : Nat) (x n : Int) (h0 : 0 ≤ n) (h1 : n ≤ 32) : F_ref02_rotr N x n = some (ror x n) := by
  have e : (IntKind.bits .u32 : Int) = 32 := rfl
  unfold F_ref02_rotr ror
  rw [gd_of h0, gd_of (by omega), ck_of (by omega) (by omega), gd_of (by omega), gd_of (by omega)]
theorem rotl_eq (N : Nat) (x n : Int) (h : bits .and .u64 (IntKind.wrap .u64 (-n)) 31 = 32 - n) (h0 : 0 ≤ n) (h1 : n ≤ 32) (hw : IntKind.wrap .u64 (32 - (32 - n)) = n) : F_bits_RotateLeft32 N x (-n) = some (ror x n) := by
  have e : (IntKind.bits .u32 : Int) = 32 := rfl
  unfold F_bits_RotateLeft32 ror
  rw [h, hw, gd_of (by omega), gd_of (by omega), gd_of h0, gd_of (by omega), bits_or_comm]
theorem rl_6 (N : Nat) (x : Int) : F_bits_RotateLeft32 N x (-6) = some (ror x 6) := rotl_eq N x 6 (by decide +kernel) (by decide) (by decide) (by decide +kernel)
theorem rl_11 (N : Nat) (x : Int) : F_bits_RotateLeft32 N x (-11) = some (ror x 11) := rotl_eq N x 11 (by decide +kernel) (by decide) (by decide) (by decide +kernel)
theorem rl_25 (N : Nat) (x : Int) : F_bits_RotateLeft32 N x (-25) = some (ror x 25) := rotl_eq N x 25 (by decide +kernel) (by decide) (by decide) (by decide +kernel)
theorem rl_2 (N : Nat) (x : Int) : F_bits_RotateLeft32 N x (-2) = some (ror x 2) := rotl_eq N x 2 (by decide +kernel) (by decide) (by decide) (by decide +kernel)
theorem rl_13 (N : Nat) (x : Int) : F_bits_RotateLeft32 N x (-13) = some (ror x 13) := rotl_eq N x 13 (by decide +kernel) (by decide) (by decide) (by decide +kernel)
theorem rl_22 (N : Nat) (x : Int) : F_bits_RotateLeft32 N x (-22) = some (ror x 22) := rotl_eq N x 22 (by decide +kernel) (by decide) (by decide) (by decide +kernel)
theorem rl_7 (N : Nat) (x : Int) : F_bits_RotateLeft32 N x (-7) = some (ror x 7) := rotl_eq N x 7 (by decide +kernel) (by decide) (by decide) (by decide +kernel)
theorem rl_18 (N : Nat) (x : Int) : F_bits_RotateLeft32 N x (-18) = some (ror x 18) := rotl_eq N x 18 (by decide +kernel) (by decide) (by decide) (by decide +kernel)
theorem rl_17 (N : Nat) (x : Int) : F_bits_RotateLeft32 N x (-17) = some (ror x 17) := rotl_eq N x 17 (by decide +kernel) (by decide) (by decide) (by decide +kernel)
theorem rl_19 (N : Nat) (x : Int) : F_bits_RotateLeft32 N x (-19) = some (ror x 19) := rotl_eq N x 19 (by decide +kernel) (by decide) (by decide) (by decide +kernel)
theorem rr_6 (N : Nat) (x : Int) : F_ref02_rotr N x 6 = some (ror x 6) := rotr_eq N x 6 (by decide) (by decide)
theorem rr_11 (N : Nat) (x : Int) : F_ref02_rotr N x 11 = some (ror x 11) := rotr_eq N x 11 (by decide) (by decide)
theorem rr_25 (N : Nat) (x : Int) : F_ref02_rotr N x 25 = some (ror x 25) := rotr_eq N x 25 (by decide) (by decide)
theorem rr_2 (N : Nat) (x : Int) : F_ref02_rotr N x 2 = some (ror x 2) := rotr_eq N x 2 (by decide) (by decide)
theorem rr_13 (N : Nat) (x : Int) : F_ref02_rotr N x 13 = some (ror x 13) := rotr_eq N x 13 (by decide) (by decide)
theorem rr_22 (N : Nat) (x : Int) : F_ref02_rotr N x 22 = some (ror x 22) := rotr_eq N x 22 (by decide) (by decide)
theorem rr_7 (N : Nat) (x : Int) : F_ref02_rotr N x 7 = some (ror x 7) := rotr_eq N x 7 (by decide) (by decide)
theorem rr_18 (N : Nat) (x : Int) : F_ref02_rotr N x 18 = some (ror x 18) := rotr_eq N x 18 (by decide) (by decide)
theorem rr_17 (N : Nat) (x : Int) : F_ref02_rotr N x 17 = some (ror x 17) := rotr_eq N x 17 (by decide) (by decide)
theorem rr_19 (N : Nat) (x : Int) : F_ref02_rotr N x 19 = some (ror x 19) := rotr_eq N x 19 (by decide) (by decide)
theorem mix_1 (N : Nat) (x : Int) : F_hash_mix N x 6 11 25 = some (bits .xor .u32 (bits .xor .u32 (ror x 6) (ror x 11)) (ror x 25)) := by
  unfold F_hash_mix
  rw [rl_6, rl_11, rl_25]; rfl
theorem mix_2 (N : Nat) (x : Int) : F_hash_mix N x 2 13 22 = some (bits .xor .u32 (bits .xor .u32 (ror x 2) (ror x 13)) (ror x 22)) := by
  unfold F_hash_mix
  rw [rl_2, rl_13, rl_22]; rfl

theorem sched_hi (N : Nat) (p : List Int) (a2 : Arr 64) : ∀ (k t m m' : Nat) (w : Arr 64), t + k = 64 → 16 ≤ t → k < m → k < m' → ∃ r, L_hash_schedule_0 N p m t a2 w = some r ∧ L_ref02_words_1 N m' t w = some r
  | k, t, 0, m', w, _, _, h, _ => by omega
  | k, t, m + 1, 0, w, _, _, _, h => by omega
  | 0, t, m + 1, m' + 1, w, h, h1, _, _ => by
    rw [L_hash_schedule_0, L_ref02_words_1, show decide ((t : Int) < 64) = false by rw [decide_eq_false_iff_not]; omega]
    exact ⟨_, rfl, rfl⟩
  | k + 1, t, m + 1, m' + 1, w, h, h1, hm, hm' => by
    rw [L_hash_schedule_0, L_ref02_words_1, show decide ((t : Int) < 64) = true by rw [decide_eq_true_eq]; omega, show decide ((t : Int) < 16) = false by rw [decide_eq_false_iff_not]; omega]
    simp (disch := omega) only [if_true?, if_false?, ck_of, gd_of, get_arr, rl_7, rl_18, rl_17, rl_19, rr_7, rr_18, rr_17, rr_19, bd_some, cast_succ]
    exact sched_hi N p a2 k (t + 1) m m' _ (by omega) (by omega) (by omega) (by omega)
/-- A word of four bytes, as the program and as the specification compute it. -/
theorem word_eq {a b c d : Int} (ha : 0 ≤ a ∧ a < 256) (hb : 0 ≤ b ∧ b < 256) (hc : 0 ≤ c ∧ c < 256) (hd : 0 ≤ d ∧ d < 256) :
    bits .or .u32 (IntKind.wrap .u32 (bits .or .u32 (IntKind.wrap .u32 (bits .or .u32 (IntKind.wrap .u32 (bits .or .u32 (IntKind.wrap .u32 (0 * 2 ^ (8 : Int).toNat)) (IntKind.wrap .u32 a) * 2 ^ (8 : Int).toNat)) (IntKind.wrap .u32 b) * 2 ^ (8 : Int).toNat)) (IntKind.wrap .u32 c) * 2 ^ (8 : Int).toNat)) (IntKind.wrap .u32 d)
    = bits .or .u32 (bits .or .u32 (bits .or .u32 (IntKind.wrap .u32 (IntKind.wrap .u32 a * 2 ^ (24 : Int).toNat)) (IntKind.wrap .u32 (IntKind.wrap .u32 b * 2 ^ (16 : Int).toNat))) (IntKind.wrap .u32 (IntKind.wrap .u32 c * 2 ^ (8 : Int).toNat))) (IntKind.wrap .u32 d) := by
  have e8 : (2 : Int) ^ (8 : Int).toNat = 256 := rfl
  have e16 : (2 : Int) ^ (16 : Int).toNat = 65536 := rfl
  have e24 : (2 : Int) ^ (24 : Int).toNat = 16777216 := rfl
  have w : ∀ x : Int, 0 ≤ x → x < 4294967296 → IntKind.wrap .u32 x = x := fun x h h' => Go.u32_wrap_id x h h'
  rw [e8, e16, e24, w a (by omega) (by omega), w b (by omega) (by omega), w c (by omega) (by omega), w d (by omega) (by omega), w (0 * 256) (by omega) (by omega), w (a * 16777216) (by omega) (by omega), w (b * 65536) (by omega) (by omega), w (c * 256) (by omega) (by omega)]
  have j1 : bits .or .u32 (0 * 256) a = a := by rw [bits_or_comm, Go.u32_or8 _ _ (by omega) (by omega) (by omega) (by omega) (by omega)]; omega
  rw [j1, w (a * 256) (by omega) (by omega)]
  have j2 : bits .or .u32 (a * 256) b = a * 256 + b := by rw [bits_or_comm, Go.u32_or8 _ _ (by omega) (by omega) (by omega) (by omega) (by omega)]; omega
  rw [j2, w ((a * 256 + b) * 256) (by omega) (by omega)]
  have j3 : bits .or .u32 ((a * 256 + b) * 256) c = (a * 256 + b) * 256 + c := by rw [bits_or_comm, Go.u32_or8 _ _ (by omega) (by omega) (by omega) (by omega) (by omega)]; omega
  rw [j3, w (((a * 256 + b) * 256 + c) * 256) (by omega) (by omega)]
  have j4 : bits .or .u32 (((a * 256 + b) * 256 + c) * 256) d = ((a * 256 + b) * 256 + c) * 256 + d := by rw [bits_or_comm, Go.u32_or8 _ _ (by omega) (by omega) (by omega) (by omega) (by omega)]; omega
  have i1 : bits .or .u32 (a * 16777216) (b * 65536) = a * 16777216 + b * 65536 := by rw [bits_or_comm, Go.u32_or24 _ _ (by omega) (by omega) (by omega) (by omega) (by omega)]; omega
  have i2 : bits .or .u32 (a * 16777216 + b * 65536) (c * 256) = a * 16777216 + b * 65536 + c * 256 := by rw [bits_or_comm, Go.u32_or16 _ _ (by omega) (by omega) (by omega) (by omega) (by omega)]; omega
  have i3 : bits .or .u32 (a * 16777216 + b * 65536 + c * 256) d = a * 16777216 + b * 65536 + c * 256 + d := by rw [bits_or_comm, Go.u32_or8 _ _ (by omega) (by omega) (by omega) (by omega) (by omega)]; omega
  rw [j4, i1, i2, i3]; omega
theorem four {p : List Int} {i : Nat} (h : i + 4 ≤ p.length) : ∃ a b c d r, p.drop i = a :: b :: c :: d :: r := by
  match hp : p.drop i with
  | [] => have := congrArg List.length hp; simp at this; omega
  | [_] => have := congrArg List.length hp; simp at this; omega
  | [_, _] => have := congrArg List.length hp; simp at this; omega
  | [_, _, _] => have := congrArg List.length hp; simp at this; omega
  | a :: b :: c :: d :: r => exact ⟨a, b, c, d, r, rfl⟩
theorem drop_get {β : Type} {p : List Int} {i : Nat} {x : Int} {r : List Int} {f : Int → Option β} (h : p.drop i = x :: r) (j : Int) (hj : j = (i : Int)) : get? p j f = f x := by
  subst hj
  unfold get?
  have : p[i]? = some x := by rw [← drop_get0, h]; rfl
  rw [if_pos (by omega), Int.toNat_natCast, this]
theorem drop_tl {p : List Int} {i : Nat} {x : Int} {r : List Int} (h : p.drop i = x :: r) : p.drop (i + 1) = r := by
  rw [← List.drop_drop, h]; rfl
/-- One word: the inner loop of the program. -/
theorem sched_in (N : Nat) (k0 : Int → Arr 64 → Arr 64 → Option (Arr 64)) (p : List Int) (t : Nat) (a2 w : Arr 64) (a b c d : Int) (r : List Int) (ht : t < 16) (hr : p.drop (4 * t) = a :: b :: c :: d :: r) (h0 : w.l.getD t 0 = 0) (m : Nat) :
    L_hash_schedule_1 N k0 p t a2 (m + 5) 0 w = k0 ((t : Int) + 1) a2 (w.set t (bits .or .u32 (IntKind.wrap .u32 (bits .or .u32 (IntKind.wrap .u32 (bits .or .u32 (IntKind.wrap .u32 (bits .or .u32 (IntKind.wrap .u32 (0 * 2 ^ (8 : Int).toNat)) (IntKind.wrap .u32 a) * 2 ^ (8 : Int).toNat)) (IntKind.wrap .u32 b) * 2 ^ (8 : Int).toNat)) (IntKind.wrap .u32 c) * 2 ^ (8 : Int).toNat)) (IntKind.wrap .u32 d))) := by
  have hq : (p.drop (4 * (t : Int)).toNat).take (((4 * (t : Int)) + 4).toNat - (4 * (t : Int)).toNat) = [a, b, c, d] := by
    rw [show (4 * (t : Int)).toNat = 4 * t by omega, show ((4 * (t : Int)) + 4).toNat - 4 * t = 4 by omega, hr]; rfl
  have n1 : (0 : Int) + 1 = 1 := rfl
  have n2 : (1 : Int) + 1 = 2 := rfl
  have n3 : (2 : Int) + 1 = 3 := rfl
  have n4 : (3 : Int) + 1 = 4 := rfl
  have l4 : ([a, b, c, d].length : Int) = 4 := rfl
  have d0 : decide ((0 : Int) < 4) = true := rfl
  have d1 : decide ((1 : Int) < 4) = true := rfl
  have d2 : decide ((2 : Int) < 4) = true := rfl
  have d3 : decide ((3 : Int) < 4) = true := rfl
  have d4 : decide ((4 : Int) < 4) = false := rfl
  have tn : ((t : Int)).toNat = t := Int.toNat_natCast t
  simp (disch := omega) only [L_hash_schedule_1, hq, l4, d0, d1, d2, d3, d4, if_true?, if_false?, n1, n2, n3, n4, get_0, get_1, get_2, get_3, gd_of, ck_of, get_arr, tn, getD_set, set_set, h0]
theorem sched_lo (N : Nat) (p : List Int) (hp : p.length = 64) (hB : Byt p) (hN : 70 ≤ N) (a2 : Arr 64) : ∀ (k t m m' : Nat) (w : Arr 64), t + k = 16 → 64 ≤ m + t → k < m' → 64 < m + t → (∀ j, t ≤ j → w.l.getD j 0 = 0) → ∃ r, L_hash_schedule_0 N p m t a2 w = some r ∧ L_ref02_words_0 N p m' t w = some r
  | k, t, 0, m', w, _, _, _, h, _ => by omega
  | k, t, m + 1, 0, w, _, _, h, _, _ => by omega
  | 0, t, m + 1, m' + 1, w, h, _, _, h2, _ => by
    obtain rfl : t = 16 := by omega
    rw [L_ref02_words_0, show decide (((16 : Nat) : Int) < 16) = false from rfl, if_false?]
    exact sched_hi N p a2 48 16 (m + 1) N w (by omega) (by omega) (by omega) (by omega)
  | k + 1, t, m + 1, m' + 1, w, h, h3, hm', h2, hz => by
    obtain ⟨a, b, c, d, r, hr⟩ := four (p := p) (i := 4 * t) (by omega)
    have m1 : ∀ x, x ∈ p.drop (4 * t) → 0 ≤ x ∧ x < 256 := fun x hx => hB x (List.mem_of_mem_drop hx)
    rw [hr] at m1
    have ha := m1 a (by simp)
    have hb := m1 b (by simp)
    have hc := m1 c (by simp)
    have hd := m1 d (by simp)
    have hr1 := drop_tl hr
    have hr2 := drop_tl hr1
    have hr3 := drop_tl hr2
    obtain ⟨n, rfl⟩ : ∃ n, N = n + 5 := ⟨N - 5, by omega⟩
    rw [L_hash_schedule_0, L_ref02_words_0, show decide ((t : Int) < 64) = true by rw [decide_eq_true_eq]; omega, show decide ((t : Int) < 16) = true by rw [decide_eq_true_eq]; omega]
    rw [drop_get hr (4 * (t : Int)) (by omega), drop_get hr1 (4 * (t : Int) + 1) (by omega), drop_get hr2 (4 * (t : Int) + 2) (by omega), drop_get hr3 (4 * (t : Int) + 3) (by omega)]
    simp (disch := omega) only [if_true?, ck_of, gd_of]
    rw [sched_in (n + 5) _ p t a2 w a b c d r (by omega) hr (hz t (Nat.le_refl t)) n, word_eq ha hb hc hd, cast_succ, Int.toNat_natCast]
    exact sched_lo (n + 5) p hp hB hN a2 k (t + 1) m m' _ (by omega) (by omega) (by omega) (by omega) (fun j hj => by rw [getD_set_ne _ _ _ _ (by omega)]; exact hz j (by omega))
theorem words_eq (N : Nat) (p : List Int) (hp : p.length = 64) (hB : Byt p) (hN : 70 ≤ N) : ∃ r, F_hash_schedule N p = some r ∧ F_ref02_words N p = some r := by
  obtain ⟨r, h1, h2⟩ := sched_lo N p hp hB hN (Arr.zero 64) 16 0 N N (Arr.zero 64) (by omega) (by omega) (by omega) (by omega) (fun j _ => by rw [Arr.l_zero]; exact getD_rep j 64)
  exact ⟨r, h1, h2⟩
end Go.Proofs.Tryd
namespace Go.Proofs.Tryd
open Go.Eng

def j8 (a b : Arr 4) : Arr 8 := ⟨a.l ++ b.l, by rw [List.length_append, a.len, b.len]⟩
theorem arr4 (x : Arr 4) : ∃ a b c d, x = Arr.of [a, b, c, d] rfl := by
  obtain ⟨l, h⟩ := x
  match l, h with
  | [a, b, c, d], h => exact ⟨a, b, c, d, rfl⟩
theorem arr8 (x : Arr 8) : ∃ a b c d e f g h, x = Arr.of [a, b, c, d, e, f, g, h] rfl := by
  obtain ⟨l, h⟩ := x
  match l, h with
  | [a, b, c, d, e, f, g, h], _ => exact ⟨a, b, c, d, e, f, g, h, rfl⟩
theorem j8_of (a b c d e f g h : Int) : (Arr.of [a, b, c, d, e, f, g, h] rfl : Arr 8) = j8 (Arr.of [a, b, c, d] rfl) (Arr.of [e, f, g, h] rfl) := rfl
theorem rounds (N : Nat) (p0 : Arr 8) (w : Arr 64) (k0 : Int → Arr 32 → Arr 8 → List Int → Option (Arr 32)) (a2 : Int) (c3 : Arr 32) (s : Arr 8) (c5 : List Int) : ∀ (k t m m' : Nat) (x y : Arr 4), t + k = 64 → k < m → k < m' →
    ∃ x' y', L_hash_compress_0 N p0 w m t x y = L_hash_compress_1 N x' y' N 0 p0 ∧ L_ref02_Sum_1 N k0 a2 c3 s c5 w m' t (j8 x y) = L_ref02_Sum_2 N k0 a2 c3 c5 (j8 x' y') N 0 s
  | k, t, 0, m', x, y, _, h, _ => by omega
  | k, t, m + 1, 0, x, y, _, _, h => by omega
  | 0, t, m + 1, m' + 1, x, y, h, _, _ => by
    refine ⟨x, y, ?_, ?_⟩
    · rw [L_hash_compress_0, show decide ((t : Int) < 64) = false by rw [decide_eq_false_iff_not]; omega]; rfl
    · rw [L_ref02_Sum_1, show decide ((t : Int) < 64) = false by rw [decide_eq_false_iff_not]; omega]; rfl
  | k + 1, t, m + 1, m' + 1, x, y, h, hm, hm' => by
    obtain ⟨v0, v1, v2, v3, rfl⟩ := arr4 x
    obtain ⟨e0, e1, e2, e3, rfl⟩ := arr4 y
    have hx : bits .xor .u32 4294967295 e0 = bits .xor .u32 e0 4294967295 := bits_xor_comm _ _ _
    rw [L_hash_compress_0, ← j8_of, L_ref02_Sum_1, show decide ((t : Int) < 64) = true by rw [decide_eq_true_eq]; omega]
    simp (disch := omega) only [if_true?, gd_of, get_arr gA3, get_arr gA4, get_arr w, Arr.l_of, get_0, get_1, get_2, get_3, get_4, get_5, get_6, get_7, mix_1, mix_2, rr_6, rr_11, rr_25, rr_2, rr_13, rr_22, bd_some, ck_of, cast_succ, ← gl_same, hx]
    rw [j8_of]
    exact rounds N p0 w k0 a2 c3 s c5 k (t + 1) m m' _ _ (by omega) (by omega) (by omega)

/-- The state, and what was added. -/
def addA (s : Arr 8) (v : Arr 8) : Arr 8 := ⟨List.zipWith (fun a b => IntKind.wrap .u32 (a + b)) s.l v.l, by rw [List.length_zipWith, s.len, v.len]; rfl⟩
theorem add_1 (N n : Nat) (x y : Arr 4) (s : Arr 8) : L_hash_compress_1 N x y (n + 5) 0 s = some (addA s (j8 x y)) := by
  obtain ⟨v0, v1, v2, v3, rfl⟩ := arr4 x
  obtain ⟨e0, e1, e2, e3, rfl⟩ := arr4 y
  obtain ⟨a, b, c, d, e, f, g, h, rfl⟩ := arr8 s
  rfl
theorem add_2 (N n : Nat) (k0 : Int → Arr 32 → Arr 8 → List Int → Option (Arr 32)) (a2 : Int) (c3 : Arr 32) (c5 : List Int) (v s : Arr 8) : L_ref02_Sum_2 N k0 a2 c3 c5 v (n + 9) 0 s = k0 (a2 + 64) c3 (addA s v) c5 := by
  obtain ⟨v0, v1, v2, v3, v4, v5, v6, v7, rfl⟩ := arr8 v
  obtain ⟨a, b, c, d, e, f, g, h, rfl⟩ := arr8 s
  rfl

theorem comp_ex (N : Nat) (hN : 70 ≤ N) (s : Arr 8) (b : List Int) (hb : b.length = 64) (hB : Byt b) : ∃ r, F_hash_compress N s b = some r ∧ ∀ k0 a2 a3 a5, (bd? (F_ref02_words N b) fun v6 => L_ref02_Sum_1 N k0 a2 a3 s a5 v6 N 0 s) = k0 (a2 + 64) a3 r a5 := by
  obtain ⟨w, h1, h2⟩ := words_eq N b hb hB hN
  obtain ⟨n, rfl⟩ : ∃ n, N = n + 9 := ⟨N - 9, by omega⟩
  have hj : j8 (s.part 0 4) (s.part 4 4) = s := by
    obtain ⟨a, b, c, d, e, f, g, h, rfl⟩ := arr8 s
    rfl
  obtain ⟨x', y', hh, hh1⟩ := rounds (n + 9) s w (fun _ _ _ _ => none) 0 (Arr.zero 32) s [] 64 0 (n + 9) (n + 9) (s.part 0 4) (s.part 4 4) (by omega) (by omega) (by omega)
  have hh : L_hash_compress_0 (n + 9) s w (n + 9) 0 (s.part 0 4) (s.part 4 4) = L_hash_compress_1 (n + 9) x' y' (n + 9) 0 s := hh
  refine ⟨addA s (j8 x' y'), ?_, ?_⟩
  · unfold F_hash_compress
    rw [h1, bd_some, hh]
    exact add_1 (n + 9) (n + 4) x' y' s
  · intro k0 a2 a3 a5
    rw [h2, bd_some]
    obtain ⟨x2, y2, g, g1⟩ := rounds (n + 9) s w k0 a2 a3 s a5 64 0 (n + 9) (n + 9) (s.part 0 4) (s.part 4 4) (by omega) (by omega) (by omega)
    have g : L_hash_compress_0 (n + 9) s w (n + 9) 0 (s.part 0 4) (s.part 4 4) = L_hash_compress_1 (n + 9) x2 y2 (n + 9) 0 s := g
    rw [hj] at g1
    have g1 : L_ref02_Sum_1 (n + 9) k0 a2 a3 s a5 w (n + 9) 0 s = L_ref02_Sum_2 (n + 9) k0 a2 a3 a5 (j8 x2 y2) (n + 9) 0 s := g1
    rw [g1, add_2 (n + 9) n]
    have e := hh.symm.trans g
    rw [show (n + 9) = (n + 4) + 5 from rfl, add_1, add_1, Option.some.injEq] at e
    rw [e]

/-- The state behind a block. -/
def comp (N : Nat) (s : Arr 8) (b : List Int) : Arr 8 := (F_hash_compress N s b).getD default
theorem comp_1 (N : Nat) (hN : 70 ≤ N) (s : Arr 8) (b : List Int) (hb : b.length = 64) (hB : Byt b) : F_hash_compress N s b = some (comp N s b) := by
  obtain ⟨r, h, _⟩ := comp_ex N hN s b hb hB
  unfold comp
  rw [h]; rfl
theorem comp_2 (N : Nat) (hN : 70 ≤ N) (s : Arr 8) (b : List Int) (hb : b.length = 64) (hB : Byt b) (k0 : Int → Arr 32 → Arr 8 → List Int → Option (Arr 32)) (a2 : Int) (a3 : Arr 32) (a5 : List Int) : (bd? (F_ref02_words N b) fun v6 => L_ref02_Sum_1 N k0 a2 a3 s a5 v6 N 0 s) = k0 (a2 + 64) a3 (comp N s b) a5 := by
  obtain ⟨r, h, h'⟩ := comp_ex N hN s b hb hB
  have e : comp N s b = r := by unfold comp; rw [h]; rfl
  rw [h', e]

def foldB (N : Nat) : Nat → Arr 8 → List Int → Arr 8
  | 0, s, _ => s
  | k + 1, s, l => foldB N k (comp N s (l.take 64)) (l.drop 64)
theorem foldB_succ (N : Nat) : ∀ (k : Nat) (s : Arr 8) (l : List Int), foldB N (k + 1) s l = comp N (foldB N k s l) ((l.drop (64 * k)).take 64)
  | 0, s, l => rfl
  | k + 1, s, l => by
    rw [foldB, foldB_succ N k, foldB, List.drop_drop, show 64 + 64 * k = 64 * (k + 1) by omega]
theorem foldB_app (N : Nat) : ∀ (k : Nat) (s : Arr 8) (l m : List Int), 64 * k ≤ l.length → foldB N k s (l ++ m) = foldB N k s l
  | 0, s, l, m, _ => rfl
  | k + 1, s, l, m, h => by
    rw [foldB, foldB, List.take_append_of_le_length (by omega), List.drop_append_of_le_length (by omega)]
    exact foldB_app N k _ _ _ (by rw [List.length_drop]; omega)
theorem byt_take {l : List Int} (h : Byt l) (n : Nat) : Byt (l.take n) := fun x hx => h x (List.mem_of_mem_take hx)
theorem byt_drop {l : List Int} (h : Byt l) (n : Nat) : Byt (l.drop n) := fun x hx => h x (List.mem_of_mem_drop hx)
theorem byt_app {l m : List Int} (h : Byt l) (h' : Byt m) : Byt (l ++ m) := fun x hx => (List.mem_append.1 hx).elim (h x) (h' x)
theorem ref_blocks (N : Nat) (hN : 70 ≤ N) (a3 : Arr 32) (msg : List Int) (hB : Byt msg) (hl : msg.length < 1099511627776) : ∀ (k i m : Nat) (s : Arr 8), msg.length = 64 * (i + k) → k < m →
    L_ref02_Sum_0 N m ((64 * i : Nat) : Int) a3 s msg = L_ref02_Sum_3 N (foldB N k s (msg.drop (64 * i))) N 0 (Arr.zero 32)
  | k, i, 0, s, _, h => by omega
  | 0, i, m + 1, s, h, _ => by
    rw [L_ref02_Sum_0, show decide (((64 * i : Nat) : Int) < (msg.length : Int)) = false by rw [decide_eq_false_iff_not]; omega]; rfl
  | k + 1, i, m + 1, s, h, hm => by
    rw [L_ref02_Sum_0, show decide (((64 * i : Nat) : Int) < (msg.length : Int)) = true by rw [decide_eq_true_eq]; omega]
    simp (disch := omega) only [if_true?, ck_of, gd_of]
    rw [show (((64 * i : Nat) : Int) + 64).toNat - ((64 * i : Nat) : Int).toNat = 64 by omega, Int.toNat_natCast]
    rw [comp_2 N hN s _ (by rw [List.length_take, List.length_drop]; omega) (byt_take (byt_drop hB _) _), show ((64 * i : Nat) : Int) + 64 = ((64 * (i + 1) : Nat) : Int) by omega, ref_blocks N hN a3 msg hB hl k (i + 1) m _ (by omega) (by omega), foldB, List.drop_drop]
    rfl
end Go.Proofs.Tryd
namespace Go.Proofs.Tryd
open Go.Eng

theorem byt_ints (t : Str) : Byt (intsS t) := by
  intro x hx
  obtain ⟨c, _, rfl⟩ := List.mem_map.1 hx
  have := c.toNat_lt
  omega
theorem ints_bytes {l : List Int} (h : Byt l) : intsS (bytesI l) = l := by
  induction l with
  | nil => rfl
  | cons x l ih =>
    have hx := h x (by simp)
    have : intsS (bytesI (x :: l)) = ((UInt8.ofNat x.toNat).toNat : Int) :: intsS (bytesI l) := rfl
    rw [this, ih fun y hy => h y (by simp [hy])]
    congr 1
    rw [UInt8.toNat_ofNat']
    omega
theorem bytesI_len {l : List Int} : (bytesI l).length = l.length := List.length_map _
theorem ints_take (t : Str) (n : Nat) : (intsS t).take n = intsS (t.take n) := (List.map_take).symm
theorem ints_app (t u : Str) : intsS (t ++ u) = intsS t ++ intsS u := List.map_append
theorem w64 {x : Int} (h : 0 ≤ x) (h' : x < 18446744073709551616) : IntKind.wrap .u64 x = x := Go.u64_wrap_id x h h'
theorem w8 {x : Int} (h : 0 ≤ x) (h' : x < 256) : IntKind.wrap .u8 x = x := by
  have : IntKind.wrap .u8 x = x % 256 := by simp [IntKind.wrap, IntKind.bits, IntKind.signed]
  rw [this]; omega

def h0 : Arr 8 := Arr.of [1779033703, 3144134277, 1013904242, 2773480762, 1359893119, 2600822924, 528734635, 1541459225] rfl
/-- What a stream has been given. -/
structure Rep (N : Nat) (st : HashStream) (msg : List Int) : Prop where
  n : st.n = (msg.length : Int)
  state : st.state = foldB N (msg.length / 64) h0 msg
  tail : st.block.l.take (msg.length % 64) = msg.drop (64 * (msg.length / 64))
  byt : Byt msg

theorem add_step (N m : Nat) (a1 : Str) (s : Arr 8) (b : Arr 64) (n : Nat) (h : a1 ≠ []) (hn : n < 1099511627776) (ha : a1.length < 1099511627776) :
    L_hash_Stream_Add_0 N (m + 1) a1 s b n = if n % 64 + min a1.length (64 - n % 64) = 64 then bd? (F_hash_compress N s (b.put (n % 64) ((intsS a1).take (min a1.length (64 - n % 64)))).l) (fun v => L_hash_Stream_Add_0 N m (a1.drop (min a1.length (64 - n % 64))) v (b.put (n % 64) ((intsS a1).take (min a1.length (64 - n % 64)))) ((n + min a1.length (64 - n % 64) : Nat) : Int)) else L_hash_Stream_Add_0 N m (a1.drop (min a1.length (64 - n % 64))) s (b.put (n % 64) ((intsS a1).take (min a1.length (64 - n % 64)))) ((n + min a1.length (64 - n % 64) : Nat) : Int) := by
  have e : Int.tmod (n : Int) 64 = ((n % 64 : Nat) : Int) := (Int.ofNat_tmod n 64).symm
  have hb : (a1 == ([] : Str)) = false := by cases a1 with
    | nil => exact absurd rfl h
    | cons x y => rfl
  rw [L_hash_Stream_Add_0, hb, if_false?, e, Int.toNat_natCast]
  generalize hA : n % 64 = A
  have hA' : A < 64 := by omega
  generalize hC : min a1.length (64 - A) = C
  have hC' : C ≤ a1.length := by omega
  have hC2 : A + C ≤ 64 := by omega
  have hd : (a1.drop C).take (a1.length - C) = a1.drop C := List.take_of_length_le (by rw [List.length_drop]; exact Nat.le_refl _)
  rw [Int.toNat_natCast, w64 (x := (C : Int)) (by omega) (by omega), w64 (x := (n : Int) + (C : Int)) (by omega) (by omega), hd, show ((n : Int) + (C : Int)) = ((n + C : Nat) : Int) by omega]
  simp (disch := omega) only [ck_of, gd_of]
  by_cases hq : A + C = 64
  · rw [if_pos hq, show ((A : Int) + (C : Int) == 64) = true by simp; omega, if_true?]
  · rw [if_neg hq, show ((A : Int) + (C : Int) == 64) = false by simp; omega, if_false?]
theorem add_rep (N : Nat) (hN : 70 ≤ N) : ∀ (m : Nat) (a1 : Str) (st : HashStream) (msg : List Int), Rep N st msg → (a1.length = 0 ∧ 1 ≤ m) ∨ (msg.length % 64 + a1.length) / 64 + 2 ≤ m → msg.length + a1.length < 1099511627776 → ∃ st', L_hash_Stream_Add_0 N m a1 st.state st.block st.n = some st' ∧ Rep N st' (msg ++ intsS a1)
  | 0, a1, st, msg, _, h, _ => by omega
  | m + 1, [], st, msg, hR, _, _ => by
    refine ⟨st, ?_, ?_⟩
    · rw [L_hash_Stream_Add_0]; rfl
    · show Rep N st (msg ++ [])
      rw [List.append_nil]; exact hR
  | m + 1, x :: a, st, msg, hR, h, hl => by
    have h : (msg.length % 64 + (x :: a).length) / 64 + 2 ≤ m + 1 := h.elim (fun h => by simp at h) id
    generalize hxa : x :: a = a1 at h hl ⊢
    have hne : a1 ≠ [] := by rw [← hxa]; exact List.cons_ne_nil _ _
    have hpos : 0 < a1.length := by rw [← hxa]; exact Nat.succ_pos _
    clear hxa
    rw [hR.n, add_step N m a1 st.state st.block msg.length hne (by omega) (by omega)]
    have hA' : msg.length % 64 < 64 := Nat.mod_lt _ (by omega)
    have htl := hR.tail
    have hst := hR.state
    have hdm := Nat.div_add_mod msg.length 64
    generalize hA : msg.length % 64 = A at *
    generalize hQ : msg.length / 64 = Q at *
    generalize hC : min a1.length (64 - A) = C
    have hC' : C ≤ a1.length := by omega
    have hC0 : 0 < C := by omega
    have hC2 : A + C ≤ 64 := by omega
    have hlt : ((intsS a1).take C).length = C := by rw [List.length_take, intsS_len]; omega
    have hput : (st.block.put A ((intsS a1).take C)).l = st.block.l.take A ++ (intsS a1).take C ++ st.block.l.drop (A + C) := by
      rw [Arr.l_put (by omega), hlt]
    have hsp : a1 = a1.take C ++ a1.drop C := (List.take_append_drop C a1).symm
    have hm2 : msg ++ intsS a1 = (msg ++ intsS (a1.take C)) ++ intsS (a1.drop C) := by
      rw [List.append_assoc, ← ints_app, List.take_append_drop]
    have hl2 : (msg ++ intsS (a1.take C)).length = msg.length + C := by
      rw [List.length_append, ← ints_take, hlt]
    have hB2 : Byt (msg ++ intsS (a1.take C)) := byt_app hR.byt (byt_ints _)
    rw [hm2]
    by_cases hq : A + C = 64
    · rw [if_pos hq]
      have hpl : (st.block.put A ((intsS a1).take C)).l = st.block.l.take A ++ (intsS a1).take C := by
        rw [hput, hq, List.drop_eq_nil_of_le (by rw [st.block.len]; exact Nat.le_refl _), List.append_nil]
      have hblk : (st.block.put A ((intsS a1).take C)).l = ((msg ++ intsS (a1.take C)).drop (64 * Q)).take 64 := by
        have h64 : (msg.drop (64 * Q) ++ intsS (a1.take C)).take 64 = msg.drop (64 * Q) ++ intsS (a1.take C) := List.take_of_length_le (by rw [List.length_append, List.length_drop, ← ints_take, hlt]; omega)
        rw [hpl, List.drop_append_of_le_length (by omega), htl, ints_take, h64]
      have hcomp := comp_1 N hN st.state (st.block.put A ((intsS a1).take C)).l (Arr.len _) (by rw [hblk]; exact byt_take (byt_drop hB2 _) _)
      rw [hcomp, bd_some]
      have hR' : Rep N (HashStream.mk (comp N st.state (st.block.put A ((intsS a1).take C)).l) (st.block.put A ((intsS a1).take C)) ((msg.length + C : Nat) : Int)) (msg ++ intsS (a1.take C)) := by
        refine ⟨?_, ?_, ?_, hB2⟩
        · rw [hl2]
        · rw [hl2, show (msg.length + C) / 64 = Q + 1 by omega, foldB_succ, foldB_app N Q h0 msg _ (by omega), ← hst, hblk]
        · rw [hl2, show (msg.length + C) % 64 = 0 by omega, show (msg.length + C) / 64 = Q + 1 by omega, List.take_zero, List.drop_eq_nil_of_le (by omega)]
      exact add_rep N hN m (a1.drop C) _ _ hR' (.inr (by rw [hl2, List.length_drop]; omega)) (by rw [hl2, List.length_drop]; omega)
    · rw [if_neg hq]
      have hR' : Rep N (HashStream.mk st.state (st.block.put A ((intsS a1).take C)) ((msg.length + C : Nat) : Int)) (msg ++ intsS (a1.take C)) := by
        refine ⟨?_, ?_, ?_, hB2⟩
        · rw [hl2]
        · rw [hl2, show (msg.length + C) / 64 = Q by omega, foldB_app N Q h0 msg _ (by omega), ← hst]
        · rw [hl2, show (msg.length + C) % 64 = A + C by omega, show (msg.length + C) / 64 = Q by omega, hput, List.drop_append_of_le_length (by omega), ← htl, ints_take]
          have hln : (st.block.l.take A ++ intsS (a1.take C)).length = A + C := by rw [List.length_append, List.length_take, st.block.len, ← ints_take, hlt]; omega
          rw [List.take_append_of_le_length (Nat.le_of_eq hln.symm), List.take_of_length_le (Nat.le_of_eq hln)]
      exact add_rep N hN m (a1.drop C) _ _ hR' (.inl (by rw [List.length_drop]; omega)) (by rw [hl2, List.length_drop]; omega)
theorem Add_rep (N : Nat) (hN : 70 ≤ N) (st : HashStream) (msg : List Int) (t : Str) (hR : Rep N st msg) (h : t.length / 64 + 3 ≤ N) (hl : msg.length + t.length < 1099511627776) : ∃ st', F_hash_Stream_Add N st t = some st' ∧ Rep N st' (msg ++ intsS t) :=
  add_rep N hN N t st msg hR (.inr (by omega)) hl

/-- The eight bytes of the length. -/
def lenB (n : Int) : List Int := [IntKind.wrap .u8 (n / 2 ^ (56 : Nat)), IntKind.wrap .u8 (n / 2 ^ (48 : Nat)), IntKind.wrap .u8 (n / 2 ^ (40 : Nat)), IntKind.wrap .u8 (n / 2 ^ (32 : Nat)), IntKind.wrap .u8 (n / 2 ^ (24 : Nat)), IntKind.wrap .u8 (n / 2 ^ (16 : Nat)), IntKind.wrap .u8 (n / 2 ^ (8 : Nat)), IntKind.wrap .u8 (n / 2 ^ (0 : Nat))]
theorem wrap_u8 (n : Int) : 0 ≤ IntKind.wrap .u8 n ∧ IntKind.wrap .u8 n < 256 := by
  have : IntKind.wrap .u8 n = n % 256 := by simp [IntKind.wrap, IntKind.bits, IntKind.signed]
  omega
theorem byt_lenB (n : Int) : Byt (lenB n) := by
  intro x hx
  simp only [lenB, List.mem_cons, List.not_mem_nil, or_false] at hx
  rcases hx with rfl | rfl | rfl | rfl | rfl | rfl | rfl | rfl <;> exact wrap_u8 _
theorem len_1 (N n : Nat) (st : HashStream) (a : List Int) (ha : a.length < 1099511627776) : L_hash_Stream_Sum_1 N st (n + 9) 0 a = (bd? (F_hash_Stream_Add N st (bytesI (a ++ lenB (IntKind.wrap .u64 (8 * st.n))))) fun v4 => L_hash_Stream_Sum_2 N v4 N 0 (Arr.zero 32)) := by
  generalize hz : IntKind.wrap .u64 (8 * st.n) = z
  have n1 : (0 : Int) + 1 = 1 := rfl
  have n2 : (1 : Int) + 1 = 2 := rfl
  have n3 : (2 : Int) + 1 = 3 := rfl
  have n4 : (3 : Int) + 1 = 4 := rfl
  have n5 : (4 : Int) + 1 = 5 := rfl
  have n6 : (5 : Int) + 1 = 6 := rfl
  have n7 : (6 : Int) + 1 = 7 := rfl
  have n8 : (7 : Int) + 1 = 8 := rfl
  have d0 : decide ((0 : Int) < 8) = true := rfl
  have d1 : decide ((1 : Int) < 8) = true := rfl
  have d2 : decide ((2 : Int) < 8) = true := rfl
  have d3 : decide ((3 : Int) < 8) = true := rfl
  have d4 : decide ((4 : Int) < 8) = true := rfl
  have d5 : decide ((5 : Int) < 8) = true := rfl
  have d6 : decide ((6 : Int) < 8) = true := rfl
  have d7 : decide ((7 : Int) < 8) = true := rfl
  have d8 : decide ((8 : Int) < 8) = false := rfl
  have eb : (IntKind.bits .u64 : Int) = 64 := rfl
  simp (disch := first | omega | (simp only [List.length_append, List.length_cons, List.length_nil]; omega)) only [L_hash_Stream_Sum_1, hz, n1, n2, n3, n4, n5, n6, n7, n8, d0, d1, d2, d3, d4, d5, d6, d7, d8, if_true?, if_false?, ck_of, eb, gd_of, List.append_assoc, List.cons_append, List.nil_append]
  rfl
theorem len_2 (N n : Nat) (p : List Int) (a : List Int) (ha : a.length < 1099511627776) : L_ref02_padded_1 N p (n + 9) 0 a = some (a ++ lenB (IntKind.wrap .u64 (8 * IntKind.wrap .u64 (p.length : Int)))) := by
  generalize hz : IntKind.wrap .u64 (8 * IntKind.wrap .u64 (p.length : Int)) = z
  have n1 : (0 : Int) + 1 = 1 := rfl
  have n2 : (1 : Int) + 1 = 2 := rfl
  have n3 : (2 : Int) + 1 = 3 := rfl
  have n4 : (3 : Int) + 1 = 4 := rfl
  have n5 : (4 : Int) + 1 = 5 := rfl
  have n6 : (5 : Int) + 1 = 6 := rfl
  have n7 : (6 : Int) + 1 = 7 := rfl
  have n8 : (7 : Int) + 1 = 8 := rfl
  have d0 : decide ((0 : Int) < 8) = true := rfl
  have d1 : decide ((1 : Int) < 8) = true := rfl
  have d2 : decide ((2 : Int) < 8) = true := rfl
  have d3 : decide ((3 : Int) < 8) = true := rfl
  have d4 : decide ((4 : Int) < 8) = true := rfl
  have d5 : decide ((5 : Int) < 8) = true := rfl
  have d6 : decide ((6 : Int) < 8) = true := rfl
  have d7 : decide ((7 : Int) < 8) = true := rfl
  have d8 : decide ((8 : Int) < 8) = false := rfl
  have eb : (IntKind.bits .u64 : Int) = 64 := rfl
  simp (disch := first | omega | (simp only [List.length_append, List.length_cons, List.length_nil]; omega)) only [L_ref02_padded_1, hz, n1, n2, n3, n4, n5, n6, n7, n8, d0, d1, d2, d3, d4, d5, d6, d7, d8, if_true?, if_false?, ck_of, eb, gd_of, List.append_assoc, List.cons_append, List.nil_append]
  rfl
/-- How many zeros come: both loops end with the same ones. -/
theorem pad_ex (N : Nat) (st : HashStream) (p : List Int) (hn : st.n = (p.length : Int)) (hl : p.length < 549755813888) : ∀ (k m m' : Nat) (a : List Int), (p.length + a.length + k) % 64 = 56 → k < 64 → k < m → k < m' → a.length + k < 549755813888 →
    ∃ z, (p.length + a.length + z) % 64 = 56 ∧ z ≤ k ∧ L_hash_Stream_Sum_0 N st m a = L_hash_Stream_Sum_1 N st N 0 (a ++ List.replicate z 0) ∧ L_ref02_padded_0 N p m' (p ++ a) = L_ref02_padded_1 N p N 0 (p ++ (a ++ List.replicate z 0))
  | k, 0, m', a, _, _, h, _, _ => by omega
  | k, m + 1, 0, a, _, _, _, h, _ => by omega
  | k, m + 1, m' + 1, a, h, hk, hm, hm', hal => by
    have e1 : Int.tmod ((p.length : Int) + (a.length : Int)) 64 = (((p.length + a.length) % 64 : Nat) : Int) := by
      rw [← Int.natCast_add]; exact (Int.ofNat_tmod _ 64).symm
    have e2 : Int.tmod (((p ++ a).length : Nat) : Int) 64 = (((p.length + a.length) % 64 : Nat) : Int) := by
      rw [List.length_append]; exact (Int.ofNat_tmod _ 64).symm
    rw [L_hash_Stream_Sum_0, L_ref02_padded_0, hn, e1, e2, ck_of (by omega) (by omega), ck_of (by omega) (by omega)]
    by_cases hz : (p.length + a.length) % 64 = 56
    · refine ⟨0, hz, Nat.zero_le _, ?_, ?_⟩
      · rw [show ((((p.length + a.length) % 64 : Nat) : Int) != 56) = false by simp; omega, if_false?]; simp
      · rw [show ((((p.length + a.length) % 64 : Nat) : Int) != 56) = false by simp; omega, if_false?]; simp
    · rw [show ((((p.length + a.length) % 64 : Nat) : Int) != 56) = true by simp; omega, if_true?, if_true?, gd_of (by simp only [List.length_cons, List.length_nil]; omega), gd_of (by simp only [List.length_append, List.length_cons, List.length_nil]; omega)]
      obtain ⟨k', rfl⟩ : ∃ k', k = k' + 1 := ⟨k - 1, by cases k with
        | zero => exact absurd h hz
        | succ k => rfl⟩
      obtain ⟨z, h1, h2, h3, h4⟩ := pad_ex N st p hn hl k' m m' (a ++ [0]) (by simp only [List.length_append, List.length_cons, List.length_nil]; omega) (by omega) (by omega) (by omega) (by simp only [List.length_append, List.length_cons, List.length_nil]; omega)
      simp only [List.length_append, List.length_cons, List.length_nil] at h1
      refine ⟨z + 1, by omega, by omega, ?_, ?_⟩
      · rw [h3, List.append_assoc, List.replicate_succ]; rfl
      · rw [List.append_assoc, h4, List.append_assoc, List.replicate_succ]; rfl

/-- The bytes of a state. -/
theorem out_eq (N : Nat) (v : HashStream) : ∀ (k t m m' : Nat) (w : Arr 32), t + k = 32 → k < m → k < m' → Byt w.l → ∃ r, L_hash_Stream_Sum_2 N v m t w = some r ∧ L_ref02_Sum_3 N v.state m' t w = some r ∧ Byt r.l
  | k, t, 0, m', w, _, h, _, _ => by omega
  | k, t, m + 1, 0, w, _, _, h, _ => by omega
  | 0, t, m + 1, m' + 1, w, h, _, _, hB => by
    rw [L_hash_Stream_Sum_2, L_ref02_Sum_3, show decide ((t : Int) < 32) = false by rw [decide_eq_false_iff_not]; omega]
    exact ⟨_, rfl, rfl, hB⟩
  | k + 1, t, m + 1, m' + 1, w, h, hm, hm', hB => by
    have e1 : Int.tdiv (t : Int) 4 = ((t / 4 : Nat) : Int) := (Int.ofNat_tdiv t 4).symm
    have e2 : Int.tmod (t : Int) 4 = ((t % 4 : Nat) : Int) := (Int.ofNat_tmod t 4).symm
    have eb : (IntKind.bits .u32 : Int) = 32 := rfl
    rw [L_hash_Stream_Sum_2, L_ref02_Sum_3, show decide ((t : Int) < 32) = true by rw [decide_eq_true_eq]; omega, e1, e2]
    simp (disch := omega) only [if_true?, ck_of, gd_of, eb, get_arr, cast_succ]
    refine out_eq N v k (t + 1) m m' _ (by omega) (by omega) (by omega) ?_
    intro x hx
    rw [Arr.l_set] at hx
    rcases List.mem_or_eq_of_mem_set hx with h | rfl
    · exact hB x h
    · exact wrap_u8 _
theorem Sum_eq (N : Nat) (hN : 100 ≤ N) (st : HashStream) (msg : List Int) (hR : Rep N st msg) (hl : msg.length / 64 + 4 ≤ N) (hl' : msg.length < 274877906944) : ∃ r, F_hash_Stream_Sum N st = some r ∧ F_ref02_Sum N msg = some r ∧ Byt r.l := by
  obtain ⟨n, rfl⟩ : ∃ n, N = n + 9 := ⟨N - 9, by omega⟩
  obtain ⟨z, h1, h2, h3, h4⟩ := pad_ex (n + 9) st msg hR.n (by omega) ((64 + 56 - (msg.length + 1) % 64) % 64) (n + 9) (n + 9) [128] (by show (msg.length + 1 + _) % 64 = 56; omega) (by omega) (by omega) (by omega) (by show 1 + _ < _; omega)
  have h1 : (msg.length + 1 + z) % 64 = 56 := h1
  generalize hd : [(128 : Int)] ++ List.replicate z 0 = d at h3 h4
  have hdl : d.length = 1 + z := by rw [← hd]; simp; omega
  have hz : z < 64 := by omega
  have hdB : Byt d := by
    intro x hx
    rw [← hd] at hx
    rcases List.mem_append.1 hx with h | h
    · simp at h; omega
    · have := List.eq_of_mem_replicate h; omega
  rw [len_1 (n + 9) n st d (by omega), hR.n] at h3
  rw [len_2 (n + 9) n msg _ (by rw [List.length_append]; omega), w64 (x := (msg.length : Int)) (by omega) (by omega)] at h4
  generalize hL : lenB (IntKind.wrap .u64 (8 * (msg.length : Int))) = L at h3 h4
  have hLl : L.length = 8 := by rw [← hL]; rfl
  have hLB : Byt L := by rw [← hL]; exact byt_lenB _
  obtain ⟨st', g1, g2⟩ := Add_rep (n + 9) (by omega) st msg (bytesI (d ++ L)) hR (by rw [bytesI_len, List.length_append]; omega) (by rw [bytesI_len, List.length_append]; omega)
  rw [g1, bd_some] at h3
  rw [ints_bytes (byt_app hdB hLB)] at g2
  obtain ⟨r, o1, o2, o3⟩ := out_eq (n + 9) st' 32 0 (n + 9) (n + 9) (Arr.zero 32) (by omega) (by omega) (by omega) (by intro x hx; have := List.eq_of_mem_replicate hx; omega)
  refine ⟨r, ?_, ?_, o3⟩
  · unfold F_hash_Stream_Sum
    rw [h3]; exact o1
  · have hm : (msg ++ (d ++ L)).length = 64 * ((msg ++ (d ++ L)).length / 64) := by
      simp only [List.length_append]; omega
    have hb := ref_blocks (n + 9) (by omega) (Arr.zero 32) (msg ++ (d ++ L)) g2.byt (by simp only [List.length_append]; omega) ((msg ++ (d ++ L)).length / 64) 0 (n + 9) h0 (by omega) (by simp only [List.length_append]; omega)
    unfold F_ref02_Sum F_ref02_padded
    rw [gd_of (by omega), gd_of (by simp only [List.length_cons, List.length_nil]; omega), h4, bd_some, List.append_assoc]
    refine Eq.trans hb ?_
    rw [Nat.mul_zero, List.drop_zero, ← g2.state]
    exact o2
end Go.Proofs.Tryd
namespace Go.Proofs.Tryd
open Go.Eng

theorem int_ex (N : Nat) : ∀ (k z m m' : Nat) (a : List Int), z < 128 ^ (k + 1) → z < 18446744073709551616 → k < m → k < m' → a.length + k < 1000000 →
    ∃ v, L_wire_Int_0 N m (z : Int) a = some (a ++ v) ∧ L_ref01_Int_0 N m' (z : Int) a = some (a ++ v) ∧ Byt v ∧ v.length ≤ k + 1
  | k, z, 0, m', a, _, _, h, _, _ => by omega
  | k, z, m + 1, 0, a, _, _, _, h, _ => by omega
  | k, z, m + 1, m' + 1, a, hz, hz2, hm, hm', hal => by
    rw [L_wire_Int_0, L_ref01_Int_0]
    have ew : IntKind.wrap .u8 (z : Int) = ((z % 256 : Nat) : Int) := by
      have : IntKind.wrap .u8 (z : Int) = (z : Int) % 256 := by simp [IntKind.wrap, IntKind.bits, IntKind.signed]
      rw [this]; omega
    by_cases h : 128 ≤ z
    · obtain ⟨k', rfl⟩ : ∃ k', k = k' + 1 := ⟨k - 1, by cases k with
        | zero => have : 128 ^ (0 + 1) = 128 := rfl; omega
        | succ k => rfl⟩
      have e1 : bits .or .u8 (IntKind.wrap .u8 (z : Int)) 128 = ((z % 128 + 128 : Nat) : Int) := by
        rw [ew, Go.Lib.u8_or128_any _ (by omega) (by omega)]; omega
      have e2 : Int.tmod (z : Int) 128 = ((z % 128 : Nat) : Int) := (Int.ofNat_tmod z 128).symm
      have e3 : Int.tdiv (z : Int) 128 = ((z / 128 : Nat) : Int) := (Int.ofNat_tdiv z 128).symm
      have e4 : (z : Int) / 2 ^ (7 : Int).toNat = ((z / 128 : Nat) : Int) := rfl
      have e5 : IntKind.wrap .u8 (((z % 128 : Nat) : Int) + 128) = ((z % 128 + 128 : Nat) : Int) := by
        rw [w8 (by omega) (by omega)]; omega
      rw [e1, e2, e3, e4, w8 (x := ((z % 128 : Nat) : Int)) (by omega) (by omega), e5, w64 (x := ((z / 128 : Nat) : Int)) (by omega) (by omega)]
      rw [show decide ((z : Int) > 127) = true by rw [decide_eq_true_eq]; omega, show decide ((z : Int) ≥ 128) = true by rw [decide_eq_true_eq]; omega, if_true?, if_true?, gd_of (by simp only [List.length_cons, List.length_nil]; omega), gd_of (by simp only [List.length_cons, List.length_nil]; omega)]
      obtain ⟨v, h1, h2, h3, h4⟩ := int_ex N k' (z / 128) m m' (a ++ [((z % 128 + 128 : Nat) : Int)]) (by have : 128 ^ (k' + 1 + 1) = 128 ^ (k' + 1) * 128 := rfl; omega) (by omega) (by omega) (by omega) (by simp only [List.length_append, List.length_cons, List.length_nil]; omega)
      refine ⟨((z % 128 + 128 : Nat) : Int) :: v, ?_, ?_, ?_, by simp only [List.length_cons]; omega⟩
      · rw [h1, List.append_assoc]; rfl
      · rw [h2, List.append_assoc]; rfl
      · intro x hx
        rcases List.mem_cons.1 hx with rfl | hx
        · omega
        · exact h3 x hx
    · rw [show decide ((z : Int) > 127) = false by rw [decide_eq_false_iff_not]; omega, show decide ((z : Int) ≥ 128) = false by rw [decide_eq_false_iff_not]; omega, if_false?, if_false?, gd_of (by simp only [List.length_cons, List.length_nil]; omega)]
      exact ⟨_, rfl, rfl, fun x hx => by rw [List.mem_singleton.1 hx]; exact wrap_u8 _, by simp⟩
theorem Int_nat (N n : Nat) (hN : 20 ≤ N) (hn : n < 4611686018427387904) : ∃ v, F_wire_Int N (n : Int) = some v ∧ F_ref01_Int N (n : Int) = some v ∧ Byt v ∧ v.length ≤ 10 := by
  obtain ⟨v, h1, h2, h3, h4⟩ := int_ex N 9 (2 * n) N N [] (by have : 128 ^ (9 + 1) = 1180591620717411303424 := rfl; omega) (by omega) (by omega) (by omega) (by simp)
  have e1 : (2 : Int) ^ (63 : Int).toNat = 9223372036854775808 := rfl
  have e2 : (2 : Int) ^ (1 : Int).toNat = 2 := rfl
  refine ⟨v, ?_, ?_, h3, h4⟩
  · unfold F_wire_Int
    rw [e1, e2, show (n : Int) / 9223372036854775808 = 0 by omega, w64 (x := (n : Int)) (by omega) (by omega), w64 (x := (n : Int) * 2) (by omega) (by omega), w64 (x := 0) (by omega) (by omega), show (n : Int) * 2 = ((2 * n : Nat) : Int) by omega, show (0 : Int) = ((0 : Nat) : Int) from rfl, Go.bits_xor_u64_nat _ _ (by omega) (by omega), Nat.xor_zero, h1]
    rfl
  · unfold F_ref01_Int
    rw [show decide ((n : Int) < 0) = false by rw [decide_eq_false_iff_not]; omega, if_false?, w64 (x := (n : Int)) (by omega) (by omega), w64 (x := (n : Int) * 2) (by omega) (by omega), show (n : Int) * 2 = ((2 * n : Nat) : Int) by omega, h2]
    rfl
theorem Bytes_eq (N : Nat) (s : Str) (hN : 20 ≤ N) (hs : s.length < 1099511627776) : ∃ v, F_wire_Bytes N s = some v ∧ F_ref01_Bytes N s = some v ∧ Byt v ∧ v.length ≤ s.length + 10 := by
  obtain ⟨v, h1, h2, h3, h4⟩ := Int_nat N s.length hN (by omega)
  refine ⟨v ++ intsS s, ?_, ?_, byt_app h3 (byt_ints s), by rw [List.length_append, intsS_len]; omega⟩
  · unfold F_wire_Bytes
    rw [h1, bd_some, gd_of (by rw [intsS_len]; omega)]
  · unfold F_ref01_Bytes
    rw [h2, bd_some, gd_of (by rw [intsS_len]; omega)]

/-- An upper bound of how much the parts add. -/
def tot : List Str → Nat
  | [] => 0
  | s :: l => s.length + 10 + tot l
theorem of_ex (N : Nat) (hN : 100 ≤ N) (p : List Str) (B : Nat) (hB : B / 64 + 8 ≤ N) (hB' : B < 274877906944) : ∀ (k i m m' : Nat) (st : HashStream) (msg : List Int), Rep N st msg → i + k = p.length → k < m → k < m' → msg.length + tot (p.drop i) ≤ B → p.length < 1000000000 →
    ∃ st' msg', Rep N st' msg' ∧ msg'.length ≤ B ∧ L_hash_Of_0 N p m i st.state st.block st.n = (bd? (F_hash_Stream_Sum N st') fun v10 => some (v10.part 0 16)) ∧ L_ref02_Input_0 N p m' i msg = some msg'
  | k, i, 0, m', st, msg, _, _, h, _, _, _ => by omega
  | k, i, m + 1, 0, st, msg, _, _, _, h, _, _ => by omega
  | 0, i, m + 1, m' + 1, st, msg, hR, hi, _, _, ht, _ => by
    refine ⟨st, msg, hR, by omega, ?_, ?_⟩
    · rw [L_hash_Of_0, show decide ((i : Int) < (p.length : Int)) = false by rw [decide_eq_false_iff_not]; omega]; rfl
    · rw [L_ref02_Input_0, show decide ((i : Int) < (p.length : Int)) = false by rw [decide_eq_false_iff_not]; omega]; rfl
  | k + 1, i, m + 1, m' + 1, st, msg, hR, hi, hm, hm', ht, hp => by
    have hlt : i < p.length := by omega
    rw [drop_cons hlt, tot] at ht
    obtain ⟨v, b1, b2, b3, b4⟩ := Bytes_eq N p[i] (by omega) (by omega)
    obtain ⟨st1, a1, a2⟩ := Add_rep N (by omega) st msg (bytesI v) hR (by rw [bytesI_len]; omega) (by rw [bytesI_len]; omega)
    rw [ints_bytes b3] at a2
    rw [L_hash_Of_0, L_ref02_Input_0, show decide ((i : Int) < (p.length : Int)) = true by rw [decide_eq_true_eq]; omega, if_true?, if_true?, get_of hlt, get_of hlt, b1, b2, bd_some, bd_some, gd_of (by omega), ck_of (by omega) (by omega)]
    have a1 : F_hash_Stream_Add N (HashStream.mk st.state st.block st.n) (bytesI v) = some st1 := a1
    rw [a1, bd_some, ck_of (by omega) (by omega), cast_succ]
    exact of_ex N hN p B hB hB' k (i + 1) m m' st1 _ a2 (by omega) (by omega) (by omega) (by rw [List.length_append]; omega) hp
theorem short_ex (N : Nat) (v : Arr 32) : ∀ (k t m : Nat) (w : Arr 16), t + k = 16 → k < m → w.l.take t = v.l.take t → L_ref02_Short_0 N v m t w = some (v.part 0 16)
  | k, t, 0, w, _, h, _ => by omega
  | 0, t, m + 1, w, h, _, hw => by
    obtain rfl : t = 16 := by omega
    rw [L_ref02_Short_0, show decide (((16 : Nat) : Int) < 16) = false from rfl, if_false?]
    congr 1
    apply Arr.ext
    rw [Arr.l_part (by omega), List.drop_zero, ← hw, List.take_of_length_le (by rw [w.len]; exact Nat.le_refl _)]
  | k + 1, t, m + 1, w, h, hm, hw => by
    rw [L_ref02_Short_0, show decide ((t : Int) < 16) = true by rw [decide_eq_true_eq]; omega]
    simp (disch := omega) only [if_true?, ck_of, gd_of, get_arr, cast_succ, Int.toNat_natCast]
    refine short_ex N v k (t + 1) m _ (by omega) (by omega) ?_
    have h1 : t < v.l.length := by rw [v.len]; omega
    have h2 : t < (w.l.set t (v.l.getD t 0)).length := by rw [List.length_set, w.len]; omega
    rw [Arr.l_set, List.take_succ_eq_append_getElem h2, List.take_succ_eq_append_getElem h1, List.take_set_of_le (Nat.le_refl t), hw, List.getElem_set_self]
    congr 2
    rw [List.getD_eq_getElem?_getD, List.getElem?_eq_getElem h1]; rfl

/-- hash.Of is what the specification says. -/
theorem Of_eq (N : Nat) (tag : Int) (p : List Str) (hN : 100 ≤ N) (hp : p.length < N) (hp' : p.length < 1000000000) (ht : tot p / 64 + 9 ≤ N) (ht' : tot p < 137438953472) : ∃ d : Arr 16, F_hash_Of N tag p = some d ∧ F_ref02_Of N tag p = some d ∧ Byt d.l := by
  have r0 : Rep N (HashStream.mk h0 (Arr.zero 64) 0) [] := ⟨rfl, rfl, rfl, by intro x hx; cases hx⟩
  have hb : Byt [IntKind.wrap .u8 tag] := fun x hx => by rw [List.mem_singleton.1 hx]; exact wrap_u8 _
  obtain ⟨st1, a1, a2⟩ := Add_rep N (by omega) _ [] (bytesI [IntKind.wrap .u8 tag]) r0 (by rw [bytesI_len]; simp only [List.length_cons, List.length_nil]; omega) (by rw [bytesI_len]; simp only [List.length_cons, List.length_nil]; omega)
  rw [ints_bytes hb] at a2
  obtain ⟨st', msg', g1, g2, g3, g4⟩ := of_ex N hN p (tot p + 1) (by omega) (by omega) p.length 0 N N st1 _ a2 (by omega) hp hp (by rw [List.drop_zero]; simp only [List.nil_append, List.length_cons, List.length_nil]; omega) hp'
  obtain ⟨r, s1, s2, s3⟩ := Sum_eq N hN st' msg' g1 (by omega) (by omega)
  refine ⟨r.part 0 16, ?_, ?_, ?_⟩
  · unfold F_hash_Of F_hash_Begin
    rw [bd_some]
    have a1 : F_hash_Stream_Add N (HashStream.mk (Arr.of [1779033703, 3144134277, 1013904242, 2773480762, 1359893119, 2600822924, 528734635, 1541459225] rfl) (Arr.zero 64) 0) (bytesI [IntKind.wrap .u8 tag]) = some st1 := a1
    rw [a1, bd_some]
    have g3 : L_hash_Of_0 N p N 0 st1.state st1.block st1.n = _ := g3
    rw [g3, s1, bd_some]
  · unfold F_ref02_Of F_ref02_Input F_ref02_Short
    have g4 : L_ref02_Input_0 N p N 0 [IntKind.wrap .u8 tag] = some msg' := g4
    rw [g4, bd_some, s2, bd_some]
    have := short_ex N r 16 0 N (Arr.zero 16) (by omega) (by omega) rfl
    have this : L_ref02_Short_0 N r N 0 (Arr.zero 16) = some (r.part 0 16) := this
    rw [this, bd_some]
  · rw [Arr.l_part (by omega)]
    exact byt_take (byt_drop s3 _) _
end Go.Proofs.Tryd
namespace Go.Proofs.Tryd
open Go.Eng

def nd (N : Nat) (a b : Arr 16) : Arr 16 := (F_merkle_Node N a b).getD default
def lf (N : Nat) (s : Str) : Arr 16 := (F_merkle_Leaf N s).getD default
theorem node_ex (N : Nat) (hN : 100 ≤ N) (a b : Arr 16) : F_merkle_Node N a b = some (nd N a b) ∧ F_ref03_Node N a b = some (nd N a b) := by
  have ht : tot [bytesI a.l, bytesI b.l] = 52 := by
    show (bytesI a.l).length + 10 + ((bytesI b.l).length + 10 + 0) = 52
    rw [bytesI_len, bytesI_len, a.len, b.len]
  obtain ⟨d, h1, h2, _⟩ := Of_eq N 31 [bytesI a.l, bytesI b.l] hN (by simp only [List.length_cons, List.length_nil]; omega) (by simp only [List.length_cons, List.length_nil]; omega) (by omega) (by omega)
  have e1 : F_merkle_Node N a b = some d := by unfold F_merkle_Node; rw [h1, bd_some]
  have e2 : F_ref03_Node N a b = some d := by unfold F_ref03_Node; rw [h2, bd_some]
  have e3 : nd N a b = d := by unfold nd; rw [e1]; rfl
  rw [e3]; exact ⟨e1, e2⟩
theorem node_1 (N : Nat) (hN : 100 ≤ N) (a b : Arr 16) : F_merkle_Node N a b = some (nd N a b) := (node_ex N hN a b).1
theorem node_2 (N : Nat) (hN : 100 ≤ N) (a b : Arr 16) : F_ref03_Node N a b = some (nd N a b) := (node_ex N hN a b).2
theorem lf_ex (N : Nat) (hN : 100 ≤ N) (s : Str) (hs : s.length ≤ 2000) : F_merkle_Leaf N s = some (lf N s) ∧ F_ref03_Leaf N s = some (lf N s) := by
  obtain ⟨d, h1, h2, _⟩ := Of_eq N 30 [s] hN (by simp only [List.length_cons, List.length_nil]; omega) (by simp only [List.length_cons, List.length_nil]; omega) (by show (s.length + 10 + 0) / 64 + 9 ≤ N; omega) (by show s.length + 10 + 0 < _; omega)
  have e1 : F_merkle_Leaf N s = some d := by unfold F_merkle_Leaf; rw [h1, bd_some]
  have e2 : F_ref03_Leaf N s = some d := by unfold F_ref03_Leaf; rw [h2, bd_some]
  have e3 : lf N s = d := by unfold lf; rw [e1]; rfl
  rw [e3]; exact ⟨e1, e2⟩
theorem lf_1 (N : Nat) (hN : 100 ≤ N) (s : Str) (hs : s.length ≤ 2000) : F_merkle_Leaf N s = some (lf N s) := (lf_ex N hN s hs).1
theorem lf_2 (N : Nat) (hN : 100 ≤ N) (s : Str) (hs : s.length ≤ 2000) : F_ref03_Leaf N s = some (lf N s) := (lf_ex N hN s hs).2

theorem k0_fin : ∀ n : Fin 256, kstr0[n.val]? = some (UInt8.ofNat (Lib.bitLen n.val)) := by decide +kernel
theorem k0_get {β : Type} (y : Nat) (h : y < 256) (f : UInt8 → Option β) : get? kstr0 (IntKind.wrap .u8 (y : Int)) f = f (UInt8.ofNat (Lib.bitLen y)) := by
  rw [w8 (by omega) (by omega)]
  unfold get?
  rw [if_pos (by omega), Int.toNat_natCast, k0_fin ⟨y, h⟩]
theorem k0_nat (y : Nat) (h : y < 256) : ((UInt8.ofNat (Lib.bitLen y)).toNat : Int) = (Lib.bitLen y : Int) := by
  have : Lib.bitLen y ≤ 8 := Lib.bitLen_le8 ⟨y, h⟩
  rw [UInt8.toNat_ofNat']; omega
theorem len64_eq (N x : Nat) (hx : x < 4611686018427387904) : F_bits_Len64 N (x : Int) = some (Lib.bitLen x : Int) := by
  have p32 : (2 : Int) ^ (32 : Int).toNat = 4294967296 := rfl
  have p16 : (2 : Int) ^ (16 : Int).toNat = 65536 := rfl
  have p8 : (2 : Int) ^ (8 : Int).toNat = 256 := rfl
  have q32 : ∀ y : Nat, (y : Int) / 4294967296 = ((y / 4294967296 : Nat) : Int) := fun y => by omega
  have q16 : ∀ y : Nat, (y : Int) / 65536 = ((y / 65536 : Nat) : Int) := fun y => by omega
  have q8 : ∀ y : Nat, (y : Int) / 256 = ((y / 256 : Nat) : Int) := fun y => by omega
  have b8 : ∀ y : Nat, y < 256 → Lib.bitLen y ≤ 8 := fun y h => Lib.bitLen_le8 ⟨y, h⟩
  unfold F_bits_Len64
  rw [p32, p16, p8, q32, q16, q16, q8, q8, q8, q8]
  by_cases h1 : 4294967296 ≤ x
  · have s1 := Lib.bitLen_shift32 x h1 (by omega)
    rw [show decide ((x : Int) ≥ 4294967296) = true by rw [decide_eq_true_eq]; omega, if_true?]
    generalize hy : x / 4294967296 = y at *
    by_cases h2 : 65536 ≤ y
    · have s2 := Lib.bitLen_shift16 y h2 (by omega)
      rw [show decide ((y : Int) ≥ 65536) = true by rw [decide_eq_true_eq]; omega, if_true?, ck_of (by omega) (by omega)]
      generalize hz : y / 65536 = z at *
      by_cases h3 : 256 ≤ z
      · have s3 := Lib.bitLen_shift8 z h3 (by omega)
        have := b8 (z / 256) (by omega)
        rw [show decide ((z : Int) ≥ 256) = true by rw [decide_eq_true_eq]; omega, if_true?, ck_of (by omega) (by omega), k0_get _ (by omega), k0_nat _ (by omega), ck_of (by omega) (by omega), ck_of (by omega) (by omega)]
        congr 1; omega
      · have := b8 z (by omega)
        rw [show decide ((z : Int) ≥ 256) = false by rw [decide_eq_false_iff_not]; omega, if_false?, k0_get _ (by omega), k0_nat _ (by omega), ck_of (by omega) (by omega), ck_of (by omega) (by omega)]
        congr 1; omega
    · rw [show decide ((y : Int) ≥ 65536) = false by rw [decide_eq_false_iff_not]; omega, if_false?]
      by_cases h3 : 256 ≤ y
      · have s3 := Lib.bitLen_shift8 y h3 (by omega)
        have := b8 (y / 256) (by omega)
        rw [show decide ((y : Int) ≥ 256) = true by rw [decide_eq_true_eq]; omega, if_true?, ck_of (by omega) (by omega), k0_get _ (by omega), k0_nat _ (by omega), ck_of (by omega) (by omega), ck_of (by omega) (by omega)]
        congr 1; omega
      · have := b8 y (by omega)
        rw [show decide ((y : Int) ≥ 256) = false by rw [decide_eq_false_iff_not]; omega, if_false?, k0_get _ (by omega), k0_nat _ (by omega), ck_of (by omega) (by omega), ck_of (by omega) (by omega)]
        congr 1; omega
  · rw [show decide ((x : Int) ≥ 4294967296) = false by rw [decide_eq_false_iff_not]; omega, if_false?]
    by_cases h2 : 65536 ≤ x
    · have s2 := Lib.bitLen_shift16 x h2 (by omega)
      rw [show decide ((x : Int) ≥ 65536) = true by rw [decide_eq_true_eq]; omega, if_true?, ck_of (by omega) (by omega)]
      generalize hz : x / 65536 = z at *
      by_cases h3 : 256 ≤ z
      · have s3 := Lib.bitLen_shift8 z h3 (by omega)
        have := b8 (z / 256) (by omega)
        rw [show decide ((z : Int) ≥ 256) = true by rw [decide_eq_true_eq]; omega, if_true?, ck_of (by omega) (by omega), k0_get _ (by omega), k0_nat _ (by omega), ck_of (by omega) (by omega), ck_of (by omega) (by omega)]
        congr 1; omega
      · have := b8 z (by omega)
        rw [show decide ((z : Int) ≥ 256) = false by rw [decide_eq_false_iff_not]; omega, if_false?, k0_get _ (by omega), k0_nat _ (by omega), ck_of (by omega) (by omega), ck_of (by omega) (by omega)]
        congr 1; omega
    · rw [show decide ((x : Int) ≥ 65536) = false by rw [decide_eq_false_iff_not]; omega, if_false?]
      by_cases h3 : 256 ≤ x
      · have s3 := Lib.bitLen_shift8 x h3 (by omega)
        have := b8 (x / 256) (by omega)
        rw [show decide ((x : Int) ≥ 256) = true by rw [decide_eq_true_eq]; omega, if_true?, ck_of (by omega) (by omega), k0_get _ (by omega), k0_nat _ (by omega), ck_of (by omega) (by omega), ck_of (by omega) (by omega)]
        congr 1; omega
      · have := b8 x (by omega)
        rw [show decide ((x : Int) ≥ 256) = false by rw [decide_eq_false_iff_not]; omega, if_false?, k0_get _ (by omega), k0_nat _ (by omega), ck_of (by omega) (by omega), ck_of (by omega) (by omega)]
        congr 1; omega
/-- A number lies between two powers. -/
theorem len_pow : ∀ (k x : Nat), x < 2 ^ k → k ≤ 62 → 0 < x → 2 ^ (Lib.bitLen x - 1) ≤ x ∧ x < 2 * 2 ^ (Lib.bitLen x - 1) ∧ 1 ≤ Lib.bitLen x ∧ Lib.bitLen x ≤ k
  | 0, x, h, _, h0 => by simp at h; omega
  | k + 1, x, h, hk, h0 => by
    have hx : x < 2 ^ 64 := Nat.lt_of_lt_of_le h (Nat.pow_le_pow_right (by omega) (by omega))
    rw [Lib.bitLen_half x (by omega) hx]
    by_cases h1 : x / 2 = 0
    · have : Lib.bitLen 0 = 0 := by decide
      rw [h1, this]
      have : x = 1 := by omega
      subst this
      simp
    · obtain ⟨a, b, c, d⟩ := len_pow k (x / 2) (by rw [Nat.pow_succ] at h; omega) (by omega) (by omega)
      have e : 2 ^ (1 + Lib.bitLen (x / 2) - 1) = 2 * 2 ^ (Lib.bitLen (x / 2) - 1) := by
        rw [show 1 + Lib.bitLen (x / 2) - 1 = (Lib.bitLen (x / 2) - 1) + 1 by omega, Nat.pow_succ]; omega
      rw [e]
      omega
/-- The greatest power of 2 below a number. -/
def sp (n : Nat) : Nat := 2 ^ (Lib.bitLen (n - 1) - 1)
theorem sp_lt (n : Nat) (h : 2 ≤ n) (h' : n ≤ 2199023255552) : 1 ≤ sp n ∧ sp n < n ∧ n ≤ 2 * sp n := by
  obtain ⟨a, b, c, d⟩ := len_pow 62 (n - 1) (by omega) (by omega) (by omega)
  have : 0 < 2 ^ (Lib.bitLen (n - 1) - 1) := Nat.two_pow_pos _
  unfold sp; omega
theorem split_1 (N n : Nat) (h : 2 ≤ n) (h' : n ≤ 2199023255552) : F_merkle_split N (n : Int) = some ((sp n : Nat) : Int) := by
  obtain ⟨a, b, c, d⟩ := len_pow 62 (n - 1) (by omega) (by omega) (by omega)
  have eb : (IntKind.bits .i64 : Int) = 64 := rfl
  unfold F_merkle_split F_bits_Len
  rw [ck_of (by omega) (by omega), show (n : Int) - 1 = ((n - 1 : Nat) : Int) by omega, w64 (by omega) (by omega), len64_eq N (n - 1) (by omega), bd_some, bd_some, ck_of (by omega) (by omega), gd_of (by omega), gd_of (by omega)]
  have e : (1 : Int) * 2 ^ ((Lib.bitLen (n - 1) : Int) - 1).toNat = ((sp n : Nat) : Int) := by
    rw [show ((Lib.bitLen (n - 1) : Int) - 1).toNat = Lib.bitLen (n - 1) - 1 by omega, Int.one_mul]
    unfold sp
    rw [Int.natCast_pow]; rfl
  rw [e]
  have := sp_lt n h h'
  rw [ck_of (by omega) (by omega)]
theorem pow_uniq {a b n : Nat} (h1 : 2 ^ a < n) (h2 : n ≤ 2 * 2 ^ a) (h3 : 2 ^ b < n) (h4 : n ≤ 2 * 2 ^ b) : a = b := by
  rcases Nat.lt_trichotomy a b with h | h | h
  · have : 2 ^ (a + 1) ≤ 2 ^ b := Nat.pow_le_pow_right (by omega) h
    rw [Nat.pow_succ] at this; omega
  · exact h
  · have : 2 ^ (b + 1) ≤ 2 ^ a := Nat.pow_le_pow_right (by omega) h
    rw [Nat.pow_succ] at this; omega
end Go.Proofs.Tryd
namespace Go.Proofs.Tryd
open Go.Eng





theorem same_ex (N : Nat) (a : List (Arr 16)) (ha : a.length ≤ 1000000) : ∀ (k i m : Nat), i + k = a.length → k < m → L_ref03_Same_0 N a a m (i : Int) = some true
  | k, i, 0, _, h => by omega
  | 0, i, m + 1, h, _ => by
    rw [L_ref03_Same_0, show decide ((i : Int) < (a.length : Int)) = false by rw [decide_eq_false_iff_not]; omega]; rfl
  | k + 1, i, m + 1, h, hm => by
    rw [L_ref03_Same_0, show decide ((i : Int) < (a.length : Int)) = true by rw [decide_eq_true_eq]; omega, if_true?, get_of (by omega), get_of (by omega), beq_self_eq_true, if_true?, ck_of (by omega) (by omega), cast_succ]
    exact same_ex N a ha k (i + 1) m (by omega) (by omega)
theorem same_eq (N : Nat) (a : List (Arr 16)) (ha : a.length < N) (hb : a.length ≤ 1000000) : F_ref03_Same N a a = some true := by
  unfold F_ref03_Same
  rw [show ((a.length : Int) != (a.length : Int)) = false by simp, if_false?]
  exact same_ex N a hb a.length 0 N (by omega) ha
end Go.Proofs.Tryd
namespace Go.Proofs.Tryd
open Go.Eng

section
variable (N d n : Nat) (a b c r : Arr 16)
theorem x_root2 : F_merkle_Root_r N (d + 2) [a, b] = bd? (F_merkle_Node N a b) fun v6 => some v6 := by kernel_rfl
theorem x_root3 : F_merkle_Root_r N (d + 3) [a, b, c] = bd? (F_merkle_Root_r N (d + 2) [a, b]) fun v4 => bd? (F_merkle_Node N v4 c) fun v6 => some v6 := by kernel_rfl
theorem x_incl0 : F_merkle_Inclusion (n + 100) [a, b, c] 0 = some ([b, c], 0) := by kernel_rfl
theorem x_incl2 : F_merkle_Inclusion (n + 100) [a, b, c] 2 = bd? (bd? (F_merkle_Root_r (n + 100) (n + 98 + 2) [a, b]) fun v5 => some [v5]) fun v1 => some (v1, 0) := by kernel_rfl
theorem x_cons1 : F_merkle_Consistency (n + 100) [a, b, c] 1 = some ([b, c], 0) := by kernel_rfl
theorem x_cons2 : F_merkle_Consistency (n + 100) [a, b, c] 2 = some ([c], 0) := by kernel_rfl
theorem x_many : F_merkle_Many (n + 100) [a, b, c] [0, 2] = some ([b], 0) := by kernel_rfl
theorem x_app0 : F_merkle_Append (n + 100) (Peaks.mk 0 []) a = some (Peaks.mk 1 [a], 0) := by kernel_rfl
theorem x_app1 : F_merkle_Append (n + 100) (Peaks.mk 1 [a]) b = bd? (F_merkle_Node (n + 100) a b) fun v7 => some (Peaks.mk 2 [v7], 0) := by kernel_rfl
theorem x_app2 : F_merkle_Append (n + 100) (Peaks.mk 2 [a]) b = some (Peaks.mk 3 [a, b], 0) := by kernel_rfl
theorem x_ci2 : F_merkle_CheckInclusion_1_r N (d + 2) 0 2 a (Merklepath.mk [b] false) = bd? (F_merkle_Node N a b) fun v4 => some (v4, Merklepath.mk [] false) := by kernel_rfl
theorem x_ci3 : F_merkle_CheckInclusion_1_r N (d + 3) 0 3 a (Merklepath.mk [b, c] false) = bd? (F_merkle_CheckInclusion_1_r N (d + 2) 0 2 a (Merklepath.mk [b] false)) fun v3 => bd? (F_merkle_Node N v3.1 c) fun v4 => some (v4, v3.2) := by kernel_rfl
theorem x_ci : F_merkle_CheckInclusion (n + 100) a 0 3 [b, c] r = bd? (F_merkle_CheckInclusion_1_r (n + 100) (n + 97 + 3) 0 3 a (Merklepath.mk [b, c] false)) fun v1 => bd? (F_merkle_path_settle_put (n + 100) v1.2 (v1.1.l == r.l)) fun v2 => some v2 := by kernel_rfl
theorem x_cj2 : F_merkle_CheckInclusion_1_r N (d + 2) 0 2 a (Merklepath.mk [] false) = bd? (F_merkle_Node N a (Arr.zero 16)) fun v4 => some (v4, Merklepath.mk [] true) := by kernel_rfl
theorem x_cj3 : F_merkle_CheckInclusion_1_r N (d + 3) 0 3 a (Merklepath.mk [c] false) = bd? (F_merkle_CheckInclusion_1_r N (d + 2) 0 2 a (Merklepath.mk [] false)) fun v3 => bd? (F_merkle_Node N v3.1 c) fun v4 => some (v4, v3.2) := by kernel_rfl
theorem x_cj : F_merkle_CheckInclusion (n + 100) a 0 3 [c] r = bd? (F_merkle_CheckInclusion_1_r (n + 100) (n + 97 + 3) 0 3 a (Merklepath.mk [c] false)) fun v1 => bd? (F_merkle_path_settle_put (n + 100) v1.2 (v1.1.l == r.l)) fun v2 => some v2 := by kernel_rfl
theorem x_cc2 : F_merkle_CheckConsistency_1_r N (d + 2) 1 2 true a (Merklepath.mk [b] false) = bd? (F_merkle_Node N a b) fun v5 => some (a, v5, Merklepath.mk [] false) := by kernel_rfl
theorem x_cc3 : F_merkle_CheckConsistency_1_r N (d + 3) 1 3 true a (Merklepath.mk [b, c] false) = bd? (F_merkle_CheckConsistency_1_r N (d + 2) 1 2 true a (Merklepath.mk [b] false)) fun v4 => bd? (F_merkle_Node N v4.2.1 c) fun v5 => some (v4.1, v5, v4.2.2) := by kernel_rfl
theorem x_cc : F_merkle_CheckConsistency (n + 100) 1 3 a r [b, c] = bd? (F_merkle_CheckConsistency_1_r (n + 100) (n + 97 + 3) 1 3 true a (Merklepath.mk [b, c] false)) fun v3 => if? ((v3.1.l == a.l)) (bd? (F_merkle_path_settle_put (n + 100) v3.2.2 (v3.2.1.l == r.l)) fun v4 => some v4) (bd? (F_merkle_path_settle_put (n + 100) v3.2.2 false) fun v5 => some v5) := by kernel_rfl
theorem x_cm2 : F_merkle_CheckMany_1_r (n + 100) (d + 2) 0 2 [0] (Merklepath.mk [b] false) (Merklepath.mk [a, c] false) = bd? (F_merkle_Node (n + 100) a b) fun v7 => some (v7, Merklepath.mk [] false, Merklepath.mk [c] false) := by kernel_rfl
theorem x_cm3 : F_merkle_CheckMany_1_r (n + 100) (d + 3) 0 3 [0, 2] (Merklepath.mk [b] false) (Merklepath.mk [a, c] false) = bd? (F_merkle_CheckMany_1_r (n + 100) (d + 2) 0 2 [0] (Merklepath.mk [b] false) (Merklepath.mk [a, c] false)) fun v5 => bd? (F_merkle_CheckMany_1_r (n + 100) (d + 2) 2 1 [2] v5.2.1 v5.2.2) fun v6 => bd? (F_merkle_Node (n + 100) v5.1 v6.1) fun v7 => some (v7, v6.2.1, v6.2.2) := by kernel_rfl
theorem x_cm1 : F_merkle_CheckMany_1_r (n + 100) (d + 2) 2 1 [2] (Merklepath.mk [] false) (Merklepath.mk [c] false) = some (c, Merklepath.mk [] false, Merklepath.mk [] false) := by kernel_rfl
theorem x_cm : F_merkle_CheckMany (n + 100) 3 [0, 2] [a, c] [b] r = bd? (F_merkle_CheckMany_1_r (n + 100) (n + 97 + 3) 0 3 [0, 2] (Merklepath.mk [b] false) (Merklepath.mk [a, c] false)) fun v4 => bd? (F_merkle_path_settle_put (n + 100) v4.2.1 (v4.1.l == r.l)) fun v5 => some v5 := by kernel_rfl
end

theorem settle_t (N : Nat) : F_merkle_path_settle_put N (Merklepath.mk [] false) true = some true := rfl
theorem settle_f (N : Nat) (q : Bool) : F_merkle_path_settle_put N (Merklepath.mk [] true) q = some false := by cases q <;> rfl

/-- The examples hold. -/
theorem sanity_eq (N : Nat) (hN : 100 ≤ N) : F_law03_sanity N = some true := by
  obtain ⟨n, rfl⟩ : ∃ n, N = n + 100 := ⟨N - 100, by omega⟩
  unfold F_law03_sanity
  rw [lf_1 _ hN _ (by simp), lf_1 _ hN _ (by simp), lf_1 _ hN _ (by simp), bd_some, bd_some, bd_some]
  have ha := lf_2 (n + 100) hN ([97] : Str) (by simp)
  generalize lf (n + 100) ([97] : Str) = a at *
  generalize lf (n + 100) ([98] : Str) = b
  generalize lf (n + 100) ([99] : Str) = c
  have hab := node_1 (n + 100) hN a b
  have hab2 := node_2 (n + 100) hN a b
  generalize nd (n + 100) a b = ab at *
  have hr := node_1 (n + 100) hN ab c
  generalize nd (n + 100) ab c = r at *
  rw [hab, bd_some, hr, bd_some, x_incl0, bd_some, x_incl2, x_root2, hab, bd_some, bd_some, bd_some, bd_some, x_cons1, bd_some, x_cons2, bd_some, x_many, bd_some]
  have n1 : (0 : Int) + 1 = 1 := rfl
  have n2 : (1 : Int) + 1 = 2 := rfl
  have n3 : (2 : Int) + 1 = 3 := rfl
  have d0 : decide ((0 : Int) < 3) = true := rfl
  have d1 : decide ((1 : Int) < 3) = true := rfl
  have d2 : decide ((2 : Int) < 3) = true := rfl
  have d3 : decide ((3 : Int) < 3) = false := rfl
  have z0 : ((0 : Int) != 0) = false := rfl
  rw [show n + 100 = n + 96 + 1 + 1 + 1 + 1 from rfl, L_law03_sanity_0, ← show n + 100 = n + 96 + 1 + 1 + 1 + 1 from rfl, d0, if_true?, get_0, x_app0, bd_some, z0, if_false?, ck_of (by omega) (by omega), n1]
  rw [L_law03_sanity_0, d1, if_true?, get_1, x_app1, hab, bd_some, bd_some, z0, if_false?, ck_of (by omega) (by omega), n2]
  rw [L_law03_sanity_0, d2, if_true?, get_2, x_app2, bd_some, z0, if_false?, ck_of (by omega) (by omega), n3]
  rw [L_law03_sanity_0, d3, if_false?]
  have e1 : F_merkle_Root (n + 100) [a, b, c] = some r := by
    show F_merkle_Root_r (n + 100) (n + 97 + 3) [a, b, c] = _
    rw [x_root3, x_root2, hab, bd_some, bd_some, hr]; rfl
  have e2 : F_merkle_CheckInclusion (n + 100) a 0 3 [b, c] r = some true := by
    rw [x_ci, x_ci3, x_ci2, hab, bd_some, bd_some, hr, bd_some, bd_some, beq_self_eq_true, settle_t]; rfl
  have e3 : F_merkle_CheckConsistency (n + 100) 1 3 a r [b, c] = some true := by
    rw [x_cc, x_cc3, x_cc2, hab, bd_some, bd_some, hr, bd_some, bd_some, beq_self_eq_true, if_true?, beq_self_eq_true, settle_t]; rfl
  have e4 : F_merkle_CheckMany (n + 100) 3 [0, 2] [a, c] [b] r = some true := by
    rw [x_cm, x_cm3, x_cm2, hab, bd_some, bd_some, x_cm1, bd_some, hr, bd_some, bd_some, beq_self_eq_true, settle_t]; rfl
  have e5 : F_merkle_CheckInclusion (n + 100) a 0 3 [ab] r = some false := by
    rw [x_cj, x_cj3, x_cj2, node_1 _ hN, bd_some, bd_some, node_1 _ hN, bd_some, bd_some, settle_f]; rfl
  have s := fun l (hl : l.length ≤ 10) => same_eq (n + 100) l (by omega) (by omega)
  simp only [e1, e2, e3, e4, e5, ha, hab2, bd_some, beq_self_eq_true, s [b, c] (by simp), s [ab] (by simp), s [c] (by simp), s [b] (by simp), s [ab, c] (by simp)]
  rfl
end Go.Proofs.Tryd
namespace Go.Proofs.Tryd
open Go.Eng

end Go.Proofs.Tryd
namespace Go.Proofs.Tryd
open Go.Eng

def tn : Nat → Nat → Nat → List Bool
  | 0, _, _ => []
  | f + 1, i, n => if n ≤ 1 then [] else if i < sp n then tn f i (sp n) ++ [false] else tn f (i - sp n) (n - sp n) ++ [true]
theorem tn_1 (f i n : Nat) (h : n ≤ 1) : tn f i n = [] := by
  cases f with
  | zero => rfl
  | succ f => rw [tn, if_pos h]
theorem sp_pow (f n : Nat) (h : 2 ≤ n) (hn : n ≤ 2 ^ (f + 1)) (hb : n ≤ 2199023255552) : sp n ≤ 2 ^ f ∧ n - sp n ≤ 2 ^ f := by
  obtain ⟨h1, h2, h3⟩ := sp_lt n h hb
  have h4 : sp n ≤ 2 ^ f := by
    unfold sp at h2 ⊢
    have h5 : Lib.bitLen (n - 1) - 1 < f + 1 := (Nat.pow_lt_pow_iff_right (by omega : 1 < 2)).1 (Nat.lt_of_lt_of_le h2 hn)
    exact Nat.pow_le_pow_right (by omega) (by omega)
  omega
/-- One pair, and what is there behind it. -/
def pr (b : Bool) (x d : Arr 16) : A2Arr16 := if b = true then ⟨d, x⟩ else ⟨x, d⟩
def st1 (N : Nat) (b : Bool) (x d : Arr 16) : Arr 16 := nd N (pr b x d).f0 (pr b x d).f1
def fo (N : Nat) : Arr 16 → List Bool → List (Arr 16) → Arr 16
  | x, b :: bs, d :: ds => fo N (st1 N b x d) bs ds
  | x, _, _ => x
theorem fo_snoc (N : Nat) (b : Bool) (d : Arr 16) : ∀ (bs : List Bool) (ds : List (Arr 16)) (x : Arr 16), bs.length = ds.length → fo N x (bs ++ [b]) (ds ++ [d]) = st1 N b (fo N x bs ds) d
  | [], [], x, _ => rfl
  | _ :: bs, _ :: ds, x, h => by
    rw [List.cons_append, List.cons_append, fo, fo]
    exact fo_snoc N b d bs ds _ (by simpa using h)
  | [], _ :: _, _, h => by simp at h
  | _ :: _, [], _, h => by simp at h
def ps (N : Nat) : Arr 16 → List Bool → List (Arr 16) → List A2Arr16
  | x, b :: bs, d :: ds => pr b x d :: ps N (st1 N b x d) bs ds
  | _, _, _ => []
theorem ps_len (N : Nat) : ∀ (bs : List Bool) (ds : List (Arr 16)) (x : Arr 16), bs.length = ds.length → (ps N x bs ds).length = bs.length
  | [], [], x, _ => rfl
  | _ :: bs, _ :: ds, x, h => by
    rw [ps, List.length_cons, List.length_cons, ps_len N bs ds _ (by simpa using h)]
  | [], _ :: _, _, h => by simp at h
  | _ :: _, [], _, h => by simp at h

theorem last_0 (N : Nat) (s : Bool) : F_merkle_path_last N (Merklepath.mk [] s) = some (Arr.zero 16, Merklepath.mk [] true) := rfl
theorem last_s (N : Nat) (u : List (Arr 16)) (x : Arr 16) (s : Bool) (h : u.length ≤ 1000000) : F_merkle_path_last N (Merklepath.mk (u ++ [x]) s) = some (x, Merklepath.mk u s) := by
  have hl : (u ++ [x]).length = u.length + 1 := by simp
  unfold F_merkle_path_last
  simp only
  rw [hl, show (((u.length + 1 : Nat) : Int) == 0) = false by simp; omega, if_false?, ck_of (by omega) (by omega), show ((u.length + 1 : Nat) : Int) - 1 = (u.length : Int) by omega, get_of (by rw [hl]; omega), gd_of (by omega), gd_of (by omega), Int.toNat_natCast, Nat.sub_zero, List.take_left', List.getElem_append_right (by omega)]
  · simp
  · rfl
theorem ci_ex (N : Nat) (hN : 100 ≤ N) (x : Arr 16) : ∀ (f d i n : Nat) (l : List (Arr 16)) (s : Bool), 1 ≤ n → i < n → n ≤ 2 ^ f → n ≤ 2199023255552 → f < d → l.length ≤ 1000 →
    ∃ r, F_merkle_CheckInclusion_1_r N d (i : Int) (n : Int) x (Merklepath.mk l s) = some r ∧
      ((tn f i n).length ≤ l.length → r = (fo N x (tn f i n) (l.drop (l.length - (tn f i n).length)), Merklepath.mk (l.take (l.length - (tn f i n).length)) s)) ∧
      (l.length < (tn f i n).length → r.2.short = true) := by
  intro f
  induction f with
  | zero =>
    intro d i n l s h1 hi hn hb hd hl
    obtain ⟨d, rfl⟩ : ∃ k, d = k + 1 := ⟨d - 1, by omega⟩
    obtain rfl : n = 1 := by simp at hn; omega
    refine ⟨(x, Merklepath.mk l s), by rw [F_merkle_CheckInclusion_1_r, show (((1 : Nat) : Int) == 1) = true from rfl, if_true?], fun _ => ?_, fun h => ?_⟩
    · rw [tn, List.length_nil, Nat.sub_zero, List.take_length]; rfl
    · simp [tn] at h
  | succ f ih =>
    intro d i n l s h1 hi hn hb hd hl
    obtain ⟨d, rfl⟩ : ∃ k, d = k + 1 := ⟨d - 1, by omega⟩
    by_cases hn1 : n = 1
    · subst hn1
      refine ⟨(x, Merklepath.mk l s), by rw [F_merkle_CheckInclusion_1_r, show (((1 : Nat) : Int) == 1) = true from rfl, if_true?], fun _ => ?_, fun h => ?_⟩
      · rw [tn_1 _ _ _ (Nat.le_refl _), List.length_nil, Nat.sub_zero, List.take_length]; simp [fo]
      · rw [tn_1 _ _ _ (Nat.le_refl _)] at h; simp at h
    · obtain ⟨a1, a2, a3⟩ := sp_lt n (by omega) hb
      obtain ⟨b1, b2⟩ := sp_pow f n (by omega) hn hb
      -- the rest of the path
      obtain ⟨y, l', s', e1, e2⟩ : ∃ (y : Arr 16) (l' : List (Arr 16)) (s' : Bool), F_merkle_path_last N (Merklepath.mk l s) = some (y, Merklepath.mk l' s') ∧ ((l = [] ∧ l' = [] ∧ s' = true) ∨ (l = l' ++ [y] ∧ s' = s)) := by
        rcases List.eq_nil_or_concat l with rfl | ⟨u, z, rfl⟩
        · exact ⟨_, _, _, last_0 N s, .inl ⟨rfl, rfl, rfl⟩⟩
        · rw [List.concat_eq_append] at hl ⊢
          exact ⟨_, _, _, last_s N u z s (by simp at hl; omega), .inr ⟨rfl, rfl⟩⟩
      have hl' : l'.length ≤ 1000 := by
        rcases e2 with ⟨_, rfl, _⟩ | ⟨rfl, _⟩
        · simp
        · simp at hl; omega
      have key : ∀ (b : Bool) (i' n' : Nat) (r' : Arr 16 × Merklepath), tn (f + 1) i n = tn f i' n' ++ [b] →
          ((tn f i' n').length ≤ l'.length → r' = (fo N x (tn f i' n') (l'.drop (l'.length - (tn f i' n').length)), Merklepath.mk (l'.take (l'.length - (tn f i' n').length)) s')) →
          (l'.length < (tn f i' n').length → r'.2.short = true) →
          ((tn (f + 1) i n).length ≤ l.length → (st1 N b r'.1 y, r'.2) = (fo N x (tn (f + 1) i n) (l.drop (l.length - (tn (f + 1) i n).length)), Merklepath.mk (l.take (l.length - (tn (f + 1) i n).length)) s)) ∧
          (l.length < (tn (f + 1) i n).length → r'.2.short = true) := fun b i' n' r' et q1 q2 => by
        rw [et, List.length_append, List.length_singleton]
        refine ⟨fun h => ?_, fun h => ?_⟩
        · rcases e2 with ⟨rfl, _, _⟩ | ⟨rfl, rfl⟩
          · simp at h
          · rw [List.length_append, List.length_singleton] at h ⊢
            have hq := q1 (by omega)
            have hd : l'.length + 1 - ((tn f i' n').length + 1) = l'.length - (tn f i' n').length := by omega
            rw [hq, hd, List.drop_append_of_le_length (by omega), List.take_append_of_le_length (by omega), fo_snoc _ _ _ _ _ _ (by rw [List.length_drop]; omega)]
        · rcases e2 with ⟨rfl, rfl, rfl⟩ | ⟨rfl, rfl⟩
          · by_cases hz : (tn f i' n').length = 0
            · have := q1 (by omega)
              rw [this]
            · exact q2 (by simp; omega)
          · exact q2 (by simp at h; omega)
      rw [F_merkle_CheckInclusion_1_r, show ((n : Int) == 1) = false from beq_false_of_ne (by omega), if_false?, split_1 N n (by omega) hb, bd_some, e1, bd_some]
      by_cases hi2 : i < sp n
      · obtain ⟨r', p1, p2, p3⟩ := ih d i (sp n) l' s' a1 hi2 b1 (by omega) (by omega) hl'
        have et : tn (f + 1) i n = tn f i (sp n) ++ [false] := by rw [tn, if_neg (by omega), if_pos hi2]
        refine ⟨(st1 N false r'.1 y, r'.2), ?_, key false i (sp n) r' et p2 p3⟩
        rw [show decide ((i : Int) < ((sp n : Nat) : Int)) = true by rw [decide_eq_true_eq]; omega, if_true?, p1, bd_some, node_1 N hN, bd_some]
        rfl
      · obtain ⟨r', p1, p2, p3⟩ := ih d (i - sp n) (n - sp n) l' s' (by omega) (by omega) b2 (by omega) (by omega) hl'
        have et : tn (f + 1) i n = tn f (i - sp n) (n - sp n) ++ [true] := by rw [tn, if_neg (by omega), if_neg hi2]
        refine ⟨(st1 N true r'.1 y, r'.2), ?_, key true (i - sp n) (n - sp n) r' et p2 p3⟩
        rw [show decide ((i : Int) < ((sp n : Nat) : Int)) = false by rw [decide_eq_false_iff_not]; omega, if_false?, ck_of (by omega) (by omega), ck_of (by omega) (by omega), show (i : Int) - ((sp n : Nat) : Int) = ((i - sp n : Nat) : Int) by omega, show (n : Int) - ((sp n : Nat) : Int) = ((n - sp n : Nat) : Int) by omega, p1, bd_some, node_1 N hN, bd_some]
        rfl
theorem check_ex (N : Nat) (hN : 100 ≤ N) (x r : Arr 16) (i n : Int) (l : List (Arr 16)) (hl : l.length ≤ 1000) :
    ∃ b, F_merkle_CheckInclusion N x i n l r = some b ∧ (b = true → ∃ i' n' : Nat, i = i' ∧ n = n' ∧ 1 ≤ n' ∧ n' ≤ 1099511627776 ∧ i' < n' ∧ l.length = (tn 40 i' n').length ∧ fo N x (tn 40 i' n') l = r) := by
  unfold F_merkle_CheckInclusion
  by_cases h1 : n < 1
  · exact ⟨false, by rw [decide_eq_true h1, if_true?], fun h => by cases h⟩
  · rw [decide_eq_false h1, if_false?]
    by_cases h2 : n > 1099511627776
    · exact ⟨false, by rw [decide_eq_true h2, if_true?], fun h => by cases h⟩
    · rw [decide_eq_false h2, if_false?]
      by_cases h3 : i < 0
      · exact ⟨false, by rw [decide_eq_true h3, if_true?], fun h => by cases h⟩
      · rw [decide_eq_false h3, if_false?]
        by_cases h4 : i ≥ n
        · exact ⟨false, by rw [decide_eq_true h4, if_true?], fun h => by cases h⟩
        · rw [decide_eq_false h4, if_false?]
          obtain ⟨i', rfl⟩ := Int.eq_ofNat_of_zero_le (by omega : 0 ≤ i)
          obtain ⟨n', rfl⟩ := Int.eq_ofNat_of_zero_le (by omega : 0 ≤ n)
          have hpw : (2 : Nat) ^ 40 = 1099511627776 := by decide
          obtain ⟨q, e1, e2, e3⟩ := ci_ex N hN x 40 N i' n' l false (by omega) (by omega) (by omega) (by omega) (by omega) hl
          unfold F_merkle_CheckInclusion_1
          rw [e1, bd_some]
          unfold F_merkle_path_settle_put
          by_cases hr : q.1.l = r.l
          · rw [show (q.1.l == r.l) = true by rw [hr]; exact beq_self_eq_true _, if_true?]
            cases hs : q.2.short
            · rw [if_false?, bd_some]
              refine ⟨_, rfl, fun hb => ?_⟩
              have hlen : (tn 40 i' n').length ≤ l.length := Nat.le_of_not_lt fun h => by rw [e3 h] at hs; cases hs
              have hq := e2 hlen
              rw [hq] at hb hr
              have hz : (l.take (l.length - (tn 40 i' n').length)).length = 0 := by simpa using hb
              rw [List.length_take] at hz
              have hll : l.length = (tn 40 i' n').length := by omega
              refine ⟨i', n', rfl, rfl, by omega, by omega, by omega, hll, ?_⟩
              rw [hll, Nat.sub_self, List.drop_zero] at hr
              exact Arr.ext hr
            · exact ⟨false, by rw [if_true?, bd_some], fun h => by cases h⟩
          · exact ⟨false, by rw [show (q.1.l == r.l) = false from beq_false_of_ne hr, if_false?, bd_some], fun h => by cases h⟩

theorem steps_k (N : Nat) (i n : Nat) (x : Arr 16) (a : List Bool) (k0 : Int → Int → Arr 16 → List Bool → Option (List A2Arr16)) (h : 2 ≤ n) (hb : n ≤ 2199023255552) (ha : a.length ≤ 1000) (hi : i < n) : ∀ (k m j : Nat), j + k = 45 → k < m → 2 ^ j < n →
    L_law03_steps_1 N k0 (i : Int) (n : Int) x a m ((2 ^ j : Nat) : Int) = if i < sp n then k0 (i : Int) ((sp n : Nat) : Int) x (false :: a) else k0 ((i - sp n : Nat) : Int) ((n - sp n : Nat) : Int) x (true :: a) := by
  intro k
  induction k with
  | zero =>
    intro m j hj hm hp
    obtain rfl : j = 45 := by omega
    have : 2 ^ 45 = 35184372088832 := by decide
    omega
  | succ k ih =>
    intro m j hj hm hp
    obtain ⟨m, rfl⟩ : ∃ q, m = q + 1 := ⟨m - 1, by omega⟩
    have e : 2 * ((2 ^ j : Nat) : Int) = ((2 ^ (j + 1) : Nat) : Int) := by rw [Nat.pow_succ]; omega
    have e2 : 2 ^ (j + 1) = 2 ^ j * 2 := Nat.pow_succ ..
    rw [L_law03_steps_1, e, ck_of (by omega) (by omega)]
    by_cases h3 : 2 ^ (j + 1) < n
    · rw [show decide (((2 ^ (j + 1) : Nat) : Int) < (n : Int)) = true by rw [decide_eq_true_eq]; omega, if_true?]
      exact ih m (j + 1) (by omega) (by omega) h3
    · have hs : sp n = 2 ^ j := by
        obtain ⟨c1, c2, c3⟩ := sp_lt n h hb
        unfold sp
        rw [pow_uniq (n := n) (a := Lib.bitLen (n - 1) - 1) (b := j) (by show sp n < n; omega) (by show n ≤ 2 * sp n; omega) hp (by omega)]
      rw [show decide (((2 ^ (j + 1) : Nat) : Int) < (n : Int)) = false by rw [decide_eq_false_iff_not]; omega, if_false?, gd_of (by simp; omega), hs]
      by_cases h4 : i < 2 ^ j
      · rw [if_pos h4, show decide ((i : Int) ≥ ((2 ^ j : Nat) : Int)) = false by rw [decide_eq_false_iff_not]; omega, if_false?]; rfl
      · rw [if_neg h4, show decide ((i : Int) ≥ ((2 ^ j : Nat) : Int)) = true by rw [decide_eq_true_eq]; omega, if_true?, ck_of (by omega) (by omega), ck_of (by omega) (by omega), show (i : Int) - ((2 ^ j : Nat) : Int) = ((i - 2 ^ j : Nat) : Int) by omega, show (n : Int) - ((2 ^ j : Nat) : Int) = ((n - 2 ^ j : Nat) : Int) by omega]; rfl
theorem steps_2 (N : Nat) (hN : 100 ≤ N) (p : List (Arr 16)) (a : List Bool) (hp : a.length = p.length) (hb : p.length ≤ 1000) : ∀ (k m t : Nat) (x : Arr 16) (acc : List A2Arr16), t + k = p.length → k < m → acc.length ≤ t → L_law03_steps_2 N p a m (t : Int) x acc = some (acc ++ ps N x (a.drop t) (p.drop t)) := by
  intro k
  induction k with
  | zero =>
    intro m t x acc ht hm _
    obtain ⟨m, rfl⟩ : ∃ q, m = q + 1 := ⟨m - 1, by omega⟩
    rw [L_law03_steps_2, show decide ((t : Int) < (a.length : Int)) = false by rw [decide_eq_false_iff_not]; omega, if_false?, List.drop_of_length_le (by omega)]
    simp [ps]
  | succ k ih =>
    intro m t x acc ht hm hacc
    obtain ⟨m, rfl⟩ : ∃ q, m = q + 1 := ⟨m - 1, by omega⟩
    rw [L_law03_steps_2, show decide ((t : Int) < (a.length : Int)) = true by rw [decide_eq_true_eq]; omega, if_true?, show decide ((t : Int) < (p.length : Int)) = true by rw [decide_eq_true_eq]; omega, if_true?, get_of (by omega), get_of (by omega)]
    rw [List.drop_eq_getElem_cons (l := a) (i := t) (by omega), List.drop_eq_getElem_cons (l := p) (i := t) (by omega), ps]
    cases hc : a[t]
    · rw [if_false?, gd_of (by simp; omega), node_1 N hN, bd_some, ck_of (by omega) (by omega), cast_succ, ih m (t + 1) _ _ (by omega) (by omega) (by simp; omega), List.append_assoc]
      rfl
    · rw [if_true?, gd_of (by simp; omega), node_1 N hN, bd_some, ck_of (by omega) (by omega), cast_succ, ih m (t + 1) _ _ (by omega) (by omega) (by simp; omega), List.append_assoc]
      rfl
theorem steps_0 (N : Nat) (hN : 100 ≤ N) (p : List (Arr 16)) (x : Arr 16) (hb : p.length ≤ 1000) (hbN : p.length < N) : ∀ (f m i n : Nat) (a : List Bool), 1 ≤ n → i < n → n ≤ 2 ^ f → n ≤ 2199023255552 → f < m → (tn f i n).length + a.length = p.length →
    L_law03_steps_0 N p m (i : Int) (n : Int) x a = some (ps N x (tn f i n ++ a) p) := by
  have fin : ∀ (m i : Nat) (a : List Bool), a.length = p.length → L_law03_steps_0 N p (m + 1) (i : Int) ((1 : Nat) : Int) x a = some (ps N x a p) := fun m i a ha => by
    rw [L_law03_steps_0, show decide (((1 : Nat) : Int) > 1) = false from rfl, if_false?]
    have := steps_2 N hN p a ha hb p.length N 0 x [] (by omega) hbN (by simp)
    exact this
  intro f
  induction f with
  | zero =>
    intro m i n a h1 hi hn hb2 hm hl
    obtain ⟨m, rfl⟩ : ∃ q, m = q + 1 := ⟨m - 1, by omega⟩
    obtain rfl : n = 1 := by simp at hn; omega
    exact fin m i a (by simpa [tn] using hl)
  | succ f ih =>
    intro m i n a h1 hi hn hb2 hm hl
    obtain ⟨m, rfl⟩ : ∃ q, m = q + 1 := ⟨m - 1, by omega⟩
    by_cases hn1 : n = 1
    · subst hn1
      rw [tn_1 _ _ _ (Nat.le_refl _)] at hl ⊢
      exact fin m i a (by simpa using hl)
    · obtain ⟨a1, a2, a3⟩ := sp_lt n (by omega) hb2
      obtain ⟨b1, b2⟩ := sp_pow f n (by omega) hn hb2
      have hk := steps_k N i n x a (L_law03_steps_0 N p m) (by omega) hb2 (by omega) hi 45 N 0 (by omega) (by omega) (by show 1 < n; omega)
      rw [L_law03_steps_0, show decide ((n : Int) > 1) = true by rw [decide_eq_true_eq]; omega, if_true?]
      refine Eq.trans hk ?_
      by_cases hi2 : i < sp n
      · have et : tn (f + 1) i n = tn f i (sp n) ++ [false] := by rw [tn, if_neg (by omega), if_pos hi2]
        rw [et] at hl ⊢
        rw [if_pos hi2, ih m i (sp n) (false :: a) a1 hi2 b1 (by omega) (by omega) (by simp at hl ⊢; omega), List.append_assoc]; rfl
      · have et : tn (f + 1) i n = tn f (i - sp n) (n - sp n) ++ [true] := by rw [tn, if_neg (by omega), if_neg hi2]
        rw [et] at hl ⊢
        rw [if_neg hi2, ih m (i - sp n) (n - sp n) (true :: a) (by omega) (by omega) b2 (by omega) (by omega) (by simp at hl ⊢; omega), List.append_assoc]; rfl

theorem pr_ne {b : Bool} {x y d e : Arr 16} (h : x ≠ y) : (((pr b x d).f0.l == (pr b y e).f0.l) && ((pr b x d).f1.l == (pr b y e).f1.l)) = false := by
  have hl : (x.l == y.l) = false := beq_false_of_ne fun q => h (Arr.ext q)
  cases b
  · show ((x.l == y.l) && (d.l == e.l)) = false
    rw [hl]; rfl
  · show ((d.l == e.l) && (x.l == y.l)) = false
    rw [hl]; exact Bool.and_false _
theorem bind_l (N : Nat) (hN : 2000 ≤ N) (v w : List A2Arr16) (hv : v.length = w.length) (hb : v.length ≤ 1000) : ∀ (k m t : Nat) (x y : Arr 16) (bs : List Bool) (p q : List (Arr 16)), t + k = v.length → k < m → bs.length = k → p.length = k → q.length = k → v.drop t = ps N x bs p → w.drop t = ps N y bs q → x ≠ y → fo N x bs p = fo N y bs q →
    L_law03_MerkleProofsBind_0 N v w m (t : Int) = some true := by
  intro k
  induction k with
  | zero =>
    intro m t x y bs p q ht hm hbs hp hq hv' hw' hne hfo
    obtain rfl : bs = [] := List.eq_nil_of_length_eq_zero hbs
    cases p <;> cases q <;> simp [fo] at hfo <;> exact absurd hfo hne
  | succ k ih =>
    intro m t x y bs p q ht hm hbs hp hq hv' hw' hne hfo
    obtain ⟨m, rfl⟩ : ∃ r, m = r + 1 := ⟨m - 1, by omega⟩
    obtain ⟨b, bs, rfl⟩ : ∃ b r, bs = b :: r := by cases bs with | nil => simp at hbs | cons b r => exact ⟨b, r, rfl⟩
    obtain ⟨d, p, rfl⟩ : ∃ b r, p = b :: r := by cases p with | nil => simp at hp | cons b r => exact ⟨b, r, rfl⟩
    obtain ⟨e, q, rfl⟩ : ∃ b r, q = b :: r := by cases q with | nil => simp at hq | cons b r => exact ⟨b, r, rfl⟩
    rw [List.drop_eq_getElem_cons (by omega), ps] at hv' hw'
    obtain ⟨v1, v2⟩ := List.cons.inj hv'
    obtain ⟨w1, w2⟩ := List.cons.inj hw'
    rw [fo, fo] at hfo
    rw [L_law03_MerkleProofsBind_0, show decide ((t : Int) < (v.length : Int)) = true by rw [decide_eq_true_eq]; omega, if_true?, show decide ((t : Int) < (w.length : Int)) = true by rw [decide_eq_true_eq]; omega, if_true?, get_of (by omega), get_of (by omega), v1, w1, pr_ne hne, if_false?, node_1 N (by omega), bd_some, node_1 N (by omega), bd_some]
    by_cases hnd : st1 N b x d = st1 N b y e
    · rw [show ((nd N (pr b x d).f0 (pr b x d).f1).l == (nd N (pr b y e).f0 (pr b y e).f1).l) = true by rw [show nd N (pr b x d).f0 (pr b x d).f1 = nd N (pr b y e).f0 (pr b y e).f1 from hnd]; exact beq_self_eq_true _, if_true?, sanity_eq N (by omega), bd_some]
    · rw [show ((nd N (pr b x d).f0 (pr b x d).f1).l == (nd N (pr b y e).f0 (pr b y e).f1).l) = false from beq_false_of_ne fun h => hnd (Arr.ext h), if_false?, ck_of (by omega) (by omega), cast_succ]
      exact ih m (t + 1) _ _ bs p q (by omega) (by omega) (by simpa using hbs) (by simpa using hp) (by simpa using hq) v2 w2 hnd hfo
theorem law6_eq (N : Nat) (hN : 2000 ≤ N) (a b : Arr 16) (i n : Int) (p q : List (Arr 16)) (r : Arr 16) : F_law03_MerkleProofsBind N a b i n p q r = some true := by
  unfold F_law03_MerkleProofsBind
  rw [sanity_eq N (by omega)]
  simp only [bd_some]
  by_cases h1 : (p.length : Int) > 60
  · rw [decide_eq_true h1]; rfl
  · rw [decide_eq_false h1, if_false?]
    by_cases h2 : (q.length : Int) > 60
    · rw [decide_eq_true h2]; rfl
    · rw [decide_eq_false h2, if_false?]
      by_cases h3 : a.l = b.l
      · rw [h3, beq_self_eq_true]; rfl
      · rw [show (a.l == b.l) = false from beq_false_of_ne h3, if_false?]
        obtain ⟨c1, e1, f1⟩ := check_ex N (by omega) a r i n p (by omega)
        obtain ⟨c2, e2, f2⟩ := check_ex N (by omega) b r i n q (by omega)
        rw [e1, e2, bd_some, bd_some]
        cases c1
        · rfl
        · cases c2
          · rfl
          · obtain ⟨i', n', rfl, rfl, g1, g2, g3, g4, g5⟩ := f1 rfl
            obtain ⟨i2, n2, j1, j2, _, _, _, k4, k5⟩ := f2 rfl
            obtain rfl : i' = i2 := by omega
            obtain rfl : n' = n2 := by omega
            have hpw : (2 : Nat) ^ 40 = 1099511627776 := by decide
            have s1 := steps_0 N (by omega) p a (by omega) (by omega) 40 N i' n' [] g1 g3 (by omega) (by omega) (by omega) (by simpa using g4.symm)
            have s2 := steps_0 N (by omega) q b (by omega) (by omega) 40 N i' n' [] g1 g3 (by omega) (by omega) (by omega) (by simpa using k4.symm)
            rw [List.append_nil] at s1 s2
            unfold F_law03_steps
            rw [if_true?, if_true?, s1, s2, bd_some, bd_some]
            have hl1 := ps_len N (tn 40 i' n') p a g4.symm
            have hl2 := ps_len N (tn 40 i' n') q b k4.symm
            exact bind_l N hN _ _ (by omega) (by omega) (tn 40 i' n').length N 0 a b (tn 40 i' n') p q (by omega) (by omega) rfl g4 k4 rfl rfl (fun h => h3 (by rw [h])) (g5.trans k5.symm)
end Go.Proofs.Tryd
namespace Go.Proofs.Tryd
open Go.Eng Go.RowKit Go.ChangeShapes Go.WideShapes Go.ChangeAt
theorem okWide_slice {P : Program} {w : World} {r : Reach} {base : Nat} {t e : TypeId} {v : Value} (ht : P.underlying t = some (.slice e)) (h : Value.okWide P w r base t v) : ∃ b l c, v = .slice b l c := by
  simp only [Value.okWide, ht, Cell.okWide] at h
  cases v <;> simp_all [Cell.ok]
theorem okWide_array {P : Program} {w : World} {r : Reach} {base : Nat} {t e : TypeId} {n : Nat} {v : Value} (ht : P.underlying t = some (.array n e)) (h : Value.okWide P w r base t v) : ∃ cs, v = .agg cs ∧ cs.size = P.cellsOf t := by
  simp only [Value.okWide, ht] at h
  obtain ⟨cs, h1, h2, _⟩ := h
  exact ⟨cs, h1, h2⟩
theorem crep_arr {G : Gh} {m : HM} {k : IntKind} {n : Nat} {x : Arr n} {cs : Array Value} (h : CRep G (rA k x) cs.toList) : AV.Rep G m (.agg (x.l.map (aI k))) (.agg cs) := by
  have h1 := crep_agg (m := m) h
  unfold rA at h1
  rw [List.map_map] at h1
  exact h1
end Go.Proofs.Tryd
namespace Go.Proofs.YtjhhgpencphgoaaDoor
open Go.Eng Go.RowKit Go.ChangeShapes Go.WideShapes Go.ChangeAt
theorem Tryd.own : ownKnob Tryd.prog.godebug = none := by kernel_rfl
theorem Tryd.laidOut : laidOutB Tryd.prog = true := by kernel_rfl
theorem Tryd.g0 : Tryd.prog.globalNamed "math/bits.deBruijn32tab" = some 0 := by kernel_rfl
theorem Tryd.gt0 : (Tryd.prog.globals[0]?).map (·.type) = some 209 := by kernel_rfl
theorem Tryd.g1 : Tryd.prog.globalNamed "math/bits.deBruijn64tab" = some 1 := by kernel_rfl
theorem Tryd.gt1 : (Tryd.prog.globals[1]?).map (·.type) = some 203 := by kernel_rfl
theorem Tryd.g4 : Tryd.prog.globalNamed "rivermark/rivermarkref02.constants" = some 4 := by kernel_rfl
theorem Tryd.gt4 : (Tryd.prog.globals[4]?).map (·.type) = some 238 := by kernel_rfl
theorem Tryd.g3 : Tryd.prog.globalNamed "rivermark/hash.constants" = some 3 := by kernel_rfl
theorem Tryd.gt3 : (Tryd.prog.globals[3]?).map (·.type) = some 238 := by kernel_rfl
/-- A world in which the listed variables hold what the row says. -/
noncomputable def laidWorld (os : Os) : World :=
  { World.holding Tryd.prog os ⟨#[], #[], []⟩ with heap := (((((World.holding Tryd.prog os ⟨#[], #[], []⟩).heap.modify 0 fun
      | .cells _ t frozen => .cells (gl0.map fun z => Value.int .u8 z).toArray t frozen
      | o => o).modify 1 fun
      | .cells _ t frozen => .cells (gl1.map fun z => Value.int .u8 z).toArray t frozen
      | o => o).modify 4 fun
      | .cells _ t frozen => .cells (gl4.map fun z => Value.int .u32 z).toArray t frozen
      | o => o).modify 3 fun
      | .cells _ t frozen => .cells (gl3.map fun z => Value.int .u32 z).toArray t frozen
      | o => o) }
theorem laid_met (os : Os) (args : Array Value) : laidMet Tryd.prog Rows.merkleProofsBindRow.laid ((laidWorld os).forCall (fun _ _ => 0) ⟨#[], args, []⟩).memory :=
  laidMet_of_run' 8 (by kernel_rfl) (by kernel_rfl)
theorem glOk {W : World} (hL : laidMet Tryd.prog [("math/bits.deBruijn32tab", Lib.tabData .u8 gl0), ("math/bits.deBruijn64tab", Lib.tabData .u8 gl1), ("rivermark/rivermarkref02.constants", Lib.tabData .u32 gl4), ("rivermark/hash.constants", Lib.tabData .u32 gl3)] W) : GlOk (gOf W) := by
  have t0 := glOk_tab (Lib.tabIs_of_head Tryd.g0 Tryd.gt0 Tryd.underlying209 Tryd.underlying5 (by kernel_rfl) (by kernel_rfl) hL) Tryd.g0
  have l0 := laidMet.tail hL
  have t1 := glOk_tab (Lib.tabIs_of_head Tryd.g1 Tryd.gt1 Tryd.underlying203 Tryd.underlying5 (by kernel_rfl) (by kernel_rfl) l0) Tryd.g1
  have l1 := laidMet.tail l0
  have t4 := glOk_tab (Lib.tabIs_of_head Tryd.g4 Tryd.gt4 Tryd.underlying238 Tryd.underlying201 (by kernel_rfl) (by kernel_rfl) l1) Tryd.g4
  have l2 := laidMet.tail l1
  have t3 := glOk_tab (Lib.tabIs_of_head Tryd.g3 Tryd.gt3 Tryd.underlying238 Tryd.underlying201 (by kernel_rfl) (by kernel_rfl) l2) Tryd.g3
  intro g ds h
  unfold glOf at h
  split at h
  · cases h; exact t0
  · cases h; exact t1
  · cases h; exact t3
  · cases h; exact t4
  · cases h
set_option maxRecDepth 100000 in
theorem bind_lifted (hc : ∀ (x0 : (Arr 16)) (x1 : (Arr 16)) (x2 : Int) (x3 : Int) (x4 : (List (Arr 16))) (x5 : (List (Arr 16))) (x6 : (Arr 16)), (∀ z ∈ x0.l, IntKind.min .u8 ≤ z ∧ z ≤ IntKind.max .u8) → (∀ z ∈ x1.l, IntKind.min .u8 ≤ z ∧ z ≤ IntKind.max .u8) → (IntKind.min .i64 ≤ x2 ∧ x2 ≤ IntKind.max .i64) → (IntKind.min .i64 ≤ x3 ∧ x3 ≤ IntKind.max .i64) → (x4.length ≤ 9223372036854775807 ∧ ∀ y ∈ x4, (fun y : (Arr 16) => ∀ z ∈ y.l, IntKind.min .u8 ≤ z ∧ z ≤ IntKind.max .u8) y) → (x5.length ≤ 9223372036854775807 ∧ ∀ y ∈ x5, (fun y : (Arr 16) => ∀ z ∈ y.l, IntKind.min .u8 ≤ z ∧ z ≤ IntKind.max .u8) y) → (∀ z ∈ x6.l, IntKind.min .u8 ≤ z ∧ z ≤ IntKind.max .u8) →  ACall Tryd.prog 6 [.agg (x0.l.map (aI .u8)), .agg (x1.l.map (aI .u8)), .D (.I .i64 x2), .D (.I .i64 x3), .D (.L (x4.map (rA .u8))), .D (.L (x5.map (rA .u8))), .agg (x6.l.map (aI .u8))] [] (.D (.B true)) [] [])
    (os : Os) (started : os.Started) (H : Type) (enc : TypeId × Value → H) :
    ReturnsInHanded {} Tryd.checked os 6 .any (fun w args => (Rows.merkleProofsBindSpec.pre enc Tryd.prog Tryd.f6 Rows.merkleProofsBindRow.domain false w args ∧ laidMet Tryd.prog Rows.merkleProofsBindRow.laid w) ∧ sizedMet enc Tryd.prog Tryd.f6 (OpenSpec.ofChange Rows.merkleProofsBindSpec) false w args) (Rows.merkleProofsBindSpec.post enc Tryd.prog Tryd.f6 false true false false) := by
  refine returnsInHanded_of_change_and (C := Tryd.checked) (X := fun w _ => laidMet Tryd.prog Rows.merkleProofsBindRow.laid w) (fun _ _ _ hh h => laidMet.of_heap hh h) Tryd.own started (by kernel_rfl) Tryd.func6
    (ChangeSpec.witness_at (enc := enc) (C := Tryd.checked) (os := os) (X := fun w _ => laidMet Tryd.prog Rows.merkleProofsBindRow.laid w) false (laidWorld os) #[.agg #[.int .u8 0, .int .u8 0, .int .u8 0, .int .u8 0, .int .u8 0, .int .u8 0, .int .u8 0, .int .u8 0, .int .u8 0, .int .u8 0, .int .u8 0, .int .u8 0, .int .u8 0, .int .u8 0, .int .u8 0, .int .u8 0], .agg #[.int .u8 0, .int .u8 0, .int .u8 0, .int .u8 0, .int .u8 0, .int .u8 0, .int .u8 0, .int .u8 0, .int .u8 0, .int .u8 0, .int .u8 0, .int .u8 0, .int .u8 0, .int .u8 0, .int .u8 0, .int .u8 0], .int .i64 0, .int .i64 0, .slice none 0 0, .slice none 0 0, .agg #[.int .u8 0, .int .u8 0, .int .u8 0, .int .u8 0, .int .u8 0, .int .u8 0, .int .u8 0, .int .u8 0, .int .u8 0, .int .u8 0, .int .u8 0, .int .u8 0, .int .u8 0, .int .u8 0, .int .u8 0, .int .u8 0]] 8 rfl (by kernel_rfl) (by kernel_rfl) (by kernel_rfl) (by kernel_rfl) (by kernel_rfl) (laid_met os _)) ?_
  intro W base args ds gs before hval0 hW _ _ hL _
  have hval : ∀ (j : Nat) t v, Tryd.f6.params[j]? = some t → args[j]? = some v → Value.okWide Tryd.prog W .any base t v := hval0
  have hW' := hW
  obtain ⟨p, q, hA0, hV, rfl, hfz, hnd⟩ := hW
  have hA : DataW.TrodAll enc Tryd.prog W 0 (fun _ => true) true Tryd.f6.params.toList args.toList ds p := hA0
  rw [Tryd.params6] at hA hval
  obtain ⟨v0, vs1, d0, ds1, p0, p1, e0, rfl, _, t0, hA1⟩ := trodAll_cons hA
  obtain ⟨v1, vs2, d1, ds2, _, _, rfl, rfl, _, t1, hA2⟩ := trodAll_cons hA1
  obtain ⟨v2, vs3, d2, ds3, _, _, rfl, rfl, _, t2, hA3⟩ := trodAll_cons hA2
  obtain ⟨v3, vs4, d3, ds4, _, _, rfl, rfl, _, t3, hA4⟩ := trodAll_cons hA3
  obtain ⟨v4, vs5, d4, ds5, _, _, rfl, rfl, _, t4, hA5⟩ := trodAll_cons hA4
  obtain ⟨v5, vs6, d5, ds6, _, _, rfl, rfl, _, t5, hA6⟩ := trodAll_cons hA5
  obtain ⟨v6, vs7, d6, ds7, _, _, rfl, rfl, _, t6, hA7⟩ := trodAll_cons hA6
  obtain ⟨rfl, rfl, _⟩ := trodAll_nil hA7
  obtain ⟨rfl, rfl⟩ := trodVars_none hV
  have hargs : args = #[v0, v1, v2, v3, v4, v5, v6] := by rw [← Array.toArray_toList (xs := args), e0]
  subst hargs
  obtain ⟨w0, rfl, _⟩ := Go.Proofs.Tryd.okWide_array Tryd.underlying31 (hval 0 31 v0 rfl rfl)
  obtain ⟨w1, rfl, _⟩ := Go.Proofs.Tryd.okWide_array Tryd.underlying31 (hval 1 31 v1 rfl rfl)
  obtain ⟨w2, rfl⟩ := okWide_int Tryd.underlying3 (hval 2 3 v2 rfl rfl)
  obtain ⟨w3, rfl⟩ := okWide_int Tryd.underlying3 (hval 3 3 v3 rfl rfl)
  obtain ⟨w4, l4, k4_, rfl⟩ := Go.Proofs.Tryd.okWide_slice Tryd.underlying22 (hval 4 22 v4 rfl rfl)
  obtain ⟨w5, l5, k5_, rfl⟩ := Go.Proofs.Tryd.okWide_slice Tryd.underlying22 (hval 5 22 v5 rfl rfl)
  obtain ⟨w6, rfl, _⟩ := Go.Proofs.Tryd.okWide_array Tryd.underlying31 (hval 6 31 v6 rfl rfl)
  obtain ⟨f0, t0⟩ := t0
  obtain ⟨f1, t1⟩ := t1
  obtain ⟨f2, t2⟩ := t2
  obtain ⟨f3, t3⟩ := t3
  obtain ⟨f4, t4⟩ := t4
  obtain ⟨f5, t5⟩ := t5
  obtain ⟨f6, t6⟩ := t6
  obtain ⟨x0, k0, r0⟩ := (Cv.array Tryd.underlying5 (by kernel_rfl) Tryd.underlying31 (by kernel_rfl)).get enc W _ _ f0 _ _ t0
  obtain ⟨x1, k1, r1⟩ := (Cv.array Tryd.underlying5 (by kernel_rfl) Tryd.underlying31 (by kernel_rfl)).get enc W _ _ f1 _ _ t1
  obtain ⟨x2, k2, r2⟩ := (Cv.int Tryd.underlying3 (by kernel_rfl)).get enc W _ _ f2 _ _ t2
  obtain ⟨x3, k3, r3⟩ := (Cv.int Tryd.underlying3 (by kernel_rfl)).get enc W _ _ f3 _ _ t3
  obtain ⟨x4, k4, r4⟩ := (Cv.slice (Cv.array Tryd.underlying5 (by kernel_rfl) Tryd.underlying31 (by kernel_rfl)) (by decide) Tryd.underlying22 (by kernel_rfl)).get enc W _ _ f4 _ _ t4
  obtain ⟨x5, k5, r5⟩ := (Cv.slice (Cv.array Tryd.underlying5 (by kernel_rfl) Tryd.underlying31 (by kernel_rfl)) (by decide) Tryd.underlying22 (by kernel_rfl)).get enc W _ _ f5 _ _ t5
  obtain ⟨x6, k6, r6⟩ := (Cv.array Tryd.underlying5 (by kernel_rfl) Tryd.underlying31 (by kernel_rfl)).get enc W _ _ f6 _ _ t6
  have hrep : AV.RepL (gOf W) (fun _ => none) [.agg (x0.l.map (aI .u8)), .agg (x1.l.map (aI .u8)), .D (.I .i64 x2), .D (.I .i64 x3), .D (.L (x4.map (rA .u8))), .D (.L (x5.map (rA .u8))), .agg (x6.l.map (aI .u8))] [.agg w0, .agg w1, .int .i64 w2, .int .i64 w3, .slice w4 l4 k4_, .slice w5 l5 k5_, .agg w6] := by
    unfold AV.RepL
    refine ⟨_, _, rfl, Go.Proofs.Tryd.crep_arr r0, ?_⟩
    unfold AV.RepL
    refine ⟨_, _, rfl, Go.Proofs.Tryd.crep_arr r1, ?_⟩
    unfold AV.RepL
    refine ⟨_, _, rfl, crep_one r2 rfl, ?_⟩
    unfold AV.RepL
    refine ⟨_, _, rfl, crep_one r3 rfl, ?_⟩
    unfold AV.RepL
    refine ⟨_, _, rfl, crep_one r4 rfl, ?_⟩
    unfold AV.RepL
    refine ⟨_, _, rfl, crep_one r5 rfl, ?_⟩
    unfold AV.RepL
    refine ⟨_, _, rfl, Go.Proofs.Tryd.crep_arr r6, ?_⟩
    unfold AV.RepL; rfl
  refine (law_calls ⟨Tryd.f6, Tryd.func6, by kernel_rfl, by kernel_rfl⟩ (glOk hL) (vs := #[.agg w0, .agg w1, .int .i64 w2, .int .i64 w3, .slice w4 l4 k4_, .slice w5 l5 k5_, .agg w6]) (hc x0 x1 x2 x3 x4 x5 x6 k0 k1 k2 k3 k4 k5 k6) hrep).mono fun e W' ⟨he, hb⟩ => ?_
  exact ⟨_, he, law_post (tb := 4) Tryd.laidOut hW' rfl rfl (by rfl) Tryd.underlying4 (by rw [Tryd.params6]; decide +kernel) hb⟩
theorem bind_holds (hc : ∀ (x0 : (Arr 16)) (x1 : (Arr 16)) (x2 : Int) (x3 : Int) (x4 : (List (Arr 16))) (x5 : (List (Arr 16))) (x6 : (Arr 16)), (∀ z ∈ x0.l, IntKind.min .u8 ≤ z ∧ z ≤ IntKind.max .u8) → (∀ z ∈ x1.l, IntKind.min .u8 ≤ z ∧ z ≤ IntKind.max .u8) → (IntKind.min .i64 ≤ x2 ∧ x2 ≤ IntKind.max .i64) → (IntKind.min .i64 ≤ x3 ∧ x3 ≤ IntKind.max .i64) → (x4.length ≤ 9223372036854775807 ∧ ∀ y ∈ x4, (fun y : (Arr 16) => ∀ z ∈ y.l, IntKind.min .u8 ≤ z ∧ z ≤ IntKind.max .u8) y) → (x5.length ≤ 9223372036854775807 ∧ ∀ y ∈ x5, (fun y : (Arr 16) => ∀ z ∈ y.l, IntKind.min .u8 ≤ z ∧ z ≤ IntKind.max .u8) y) → (∀ z ∈ x6.l, IntKind.min .u8 ≤ z ∧ z ≤ IntKind.max .u8) →  ACall Tryd.prog 6 [.agg (x0.l.map (aI .u8)), .agg (x1.l.map (aI .u8)), .D (.I .i64 x2), .D (.I .i64 x3), .D (.L (x4.map (rA .u8))), .D (.L (x5.map (rA .u8))), .agg (x6.l.map (aI .u8))] [] (.D (.B true)) [] []) : Rows.MerkleProofsBindSaid :=
  OpenClaim.holds_of_wide 6 Tryd.f6 rfl rfl rfl rfl rfl rfl rfl ⟨rfl, rfl, rfl, rfl, rfl⟩ rfl rfl rfl rfl rfl (by kernel_rfl) Tryd.func6 (by kernel_rfl)
    (of_decide_eq_true (by kernel_rfl)) (by unfold Func.isWrapper; first | (rw [if_pos (by decide +kernel)]; kernel_rfl) | (rw [if_neg (by decide +kernel)]; exact ⟨rfl, rfl⟩))
    (fun os started H enc _ => bind_lifted hc os started H enc)
theorem bind_said : Rows.MerkleProofsBindSaid := bind_holds fun x0 x1 x2 x3 x4 x5 x6 _ _ _ _ _ _ _ => Go.Proofs.Tryd.c_law03_MerkleProofsBind 2000 x0 x1 x2 x3 x4 x5 x6 true (Go.Proofs.Tryd.law6_eq 2000 (by omega) x0 x1 x2 x3 x4 x5 x6)
theorem bind_card : Rows.MerkleProofsBindCardSaid :=
  Claim7.holds_tied_plain_at .later [] [.data, .data, .data, .data] true (true, "81ac52f078b63a2afad7e3117cff2836913e2444110d93355cacfc2370b8fad1") true bind_said (fun _ h => by cases h) (by kernel_rfl) (fun _ h => by cases h) merkleProofsBind_row_tie rfl ⟨rfl, rfl⟩ (by kernel_rfl) rfl
    (fun f fn hf hfn => by
      obtain rfl : f = 6 := Option.some.inj ((show Tryd.prog.funcNamed "rivermark/rivermarklaw03.MerkleProofsBind" = some 6 by kernel_rfl).symm.trans hf) |>.symm
      obtain rfl : fn = Tryd.f6 := (Option.some.inj (Tryd.func6.symm.trans hfn)).symm
      exact ⟨by kernel_rfl, fun j t ht => by
        rw [Tryd.params6] at ht
        have hm : t ∈ [31, 31, 3, 3, 22, 22, 31] := by
          obtain ⟨hj, e⟩ := Array.getElem?_eq_some_iff.1 ht
          rw [← e]
          exact Array.getElem_mem_toList hj
        have ha : ∀ t ∈ [31, 31, 3, 3, 22, 22, 31], Tryd.prog.wantsStandIn t = false := by decide +kernel
        exact ha t hm⟩)
    (by kernel_rfl)
end Go.Proofs.YtjhhgpencphgoaaDoor
