/-
  TenthsOf at 64ths: every product of two numbers to 200 lies within three fifths; what follows for the law. No program, no condition.
-/
import Derived.Test.YthegbaaelccekaaTxb
import Derived.Test.YthegbaaelccekaaTxc
import Derived.Test.YthegbaaelccekaaTxd
import Derived.Test.YthegbaaelccekaaTxe
import Derived.Test.YthegbaaelccekaaTxf
import Derived.Test.YthegbaaelccekaaTxg
import Derived.Test.YthegbaaelccekaaTxh
import Derived.Test.YthegbaaelccekaaTxi
import Derived.Test.YthegbaaelccekaaTxk
import Derived.Test.YthegbaaelccekaaTxl
namespace Go.Proofs.Ythegbaaelccekaa
open Go.RowKit Ieee

theorem rows_all : ∀ i, 0 < i → i < 100 → rowC i = true
  | 0, h, _ => absurd h (by decide)
  | 1, _, _ => row_1
  | 2, _, _ => row_2
  | 3, _, _ => row_3
  | 4, _, _ => row_4
  | 5, _, _ => row_5
  | 6, _, _ => row_6
  | 7, _, _ => row_7
  | 8, _, _ => row_8
  | 9, _, _ => row_9
  | 10, _, _ => row_10
  | 11, _, _ => row_11
  | 12, _, _ => row_12
  | 13, _, _ => row_13
  | 14, _, _ => row_14
  | 15, _, _ => row_15
  | 16, _, _ => row_16
  | 17, _, _ => row_17
  | 18, _, _ => row_18
  | 19, _, _ => row_19
  | 20, _, _ => row_20
  | 21, _, _ => row_21
  | 22, _, _ => row_22
  | 23, _, _ => row_23
  | 24, _, _ => row_24
  | 25, _, _ => row_25
  | 26, _, _ => row_26
  | 27, _, _ => row_27
  | 28, _, _ => row_28
  | 29, _, _ => row_29
  | 30, _, _ => row_30
  | 31, _, _ => row_31
  | 32, _, _ => row_32
  | 33, _, _ => row_33
  | 34, _, _ => row_34
  | 35, _, _ => row_35
  | 36, _, _ => row_36
  | 37, _, _ => row_37
  | 38, _, _ => row_38
  | 39, _, _ => row_39
  | 40, _, _ => row_40
  | 41, _, _ => row_41
  | 42, _, _ => row_42
  | 43, _, _ => row_43
  | 44, _, _ => row_44
  | 45, _, _ => row_45
  | 46, _, _ => row_46
  | 47, _, _ => row_47
  | 48, _, _ => row_48
  | 49, _, _ => row_49
  | 50, _, _ => row_50
  | 51, _, _ => row_51
  | 52, _, _ => row_52
  | 53, _, _ => row_53
  | 54, _, _ => row_54
  | 55, _, _ => row_55
  | 56, _, _ => row_56
  | 57, _, _ => row_57
  | 58, _, _ => row_58
  | 59, _, _ => row_59
  | 60, _, _ => row_60
  | 61, _, _ => row_61
  | 62, _, _ => row_62
  | 63, _, _ => row_63
  | 64, _, _ => row_64
  | 65, _, _ => row_65
  | 66, _, _ => row_66
  | 67, _, _ => row_67
  | 68, _, _ => row_68
  | 69, _, _ => row_69
  | 70, _, _ => row_70
  | 71, _, _ => row_71
  | 72, _, _ => row_72
  | 73, _, _ => row_73
  | 74, _, _ => row_74
  | 75, _, _ => row_75
  | 76, _, _ => row_76
  | 77, _, _ => row_77
  | 78, _, _ => row_78
  | 79, _, _ => row_79
  | 80, _, _ => row_80
  | 81, _, _ => row_81
  | 82, _, _ => row_82
  | 83, _, _ => row_83
  | 84, _, _ => row_84
  | 85, _, _ => row_85
  | 86, _, _ => row_86
  | 87, _, _ => row_87
  | 88, _, _ => row_88
  | 89, _, _ => row_89
  | 90, _, _ => row_90
  | 91, _, _ => row_91
  | 92, _, _ => row_92
  | 93, _, _ => row_93
  | 94, _, _ => row_94
  | 95, _, _ => row_95
  | 96, _, _ => row_96
  | 97, _, _ => row_97
  | 98, _, _ => row_98
  | 99, _, _ => row_99
  | i + 100, _, h => absurd h (by omega)
theorem part_at {a n b : Nat} (h : rowO a n = true) (h1 : a ≤ b) (h2 : b < a + n) (h0 : 0 < b) : okAll (2 * b + 1) := by
  unfold rowO at h
  have := List.all_eq_true.1 h (b - a) (List.mem_range.2 (by omega))
  rw [show a + (b - a) = b by omega, Bool.or_eq_true, fo_eq, Nat.beq_eq] at this
  rcases this with h | h
  · omega
  · exact chkO_to h
theorem odd_at {b : Nat} (hb : b < 100) : okAll (2 * b + 1) := by
  by_cases h0 : b = 0
  · subst h0; exact okAll_one
  have h0' : 0 < b := by omega
  by_cases h1 : b < 20
  · by_cases h2 : b < 10
    · by_cases h3 : b < 5
      · exact part_at part_0 (by omega) (by omega) h0'
      · exact part_at part_5 (by omega) (by omega) h0'
    · by_cases h3 : b < 15
      · exact part_at part_10 (by omega) (by omega) h0'
      · exact part_at part_15 (by omega) (by omega) h0'
  · by_cases h2 : b < 40
    · by_cases h3 : b < 30
      · by_cases h4 : b < 25
        · exact part_at part_20 (by omega) (by omega) h0'
        · exact part_at part_25 (by omega) (by omega) h0'
      · by_cases h4 : b < 35
        · exact part_at part_30 (by omega) (by omega) h0'
        · exact part_at part_35 (by omega) (by omega) h0'
    · by_cases h3 : b < 60
      · by_cases h4 : b < 50
        · exact part_at part_40 (by omega) (by omega) h0'
        · exact part_at part_50 (by omega) (by omega) h0'
      · by_cases h4 : b < 80
        · by_cases h5 : b < 70
          · exact part_at part_60 (by omega) (by omega) h0'
          · exact part_at part_70 (by omega) (by omega) h0'
        · by_cases h5 : b < 90
          · exact part_at part_80 (by omega) (by omega) h0'
          · exact part_at part_90 (by omega) (by omega) h0'
theorem row_at {a b : Nat} (ha : a % 2 = 1) (hb : b % 2 = 1) (hab : a ≤ b) (h : b < 200) : skip a b = true ∨ okAll (a * b) := by
  by_cases h1 : a = 1
  · subst h1
    have := odd_at (b := b / 2) (by omega)
    rw [show 2 * (b / 2) + 1 = 1 * b by omega] at this
    exact .inr this
  have hr := rows_all (a / 2) (by omega) (by omega)
  unfold rowC at hr
  have := List.all_eq_true.1 hr (b / 2 - a / 2) (List.mem_range.2 (by omega))
  rw [show 2 * (a / 2) + 1 = a by omega, show 2 * (a / 2 + (b / 2 - a / 2)) + 1 = b by omega, Bool.or_eq_true, fo_eq] at this
  exact this.imp id chkO_to
theorem step_p {a b p : Nat} (h : (Nat.beq (a % p) 0 && Nat.ble (p * b) 199) = true) (hp : p % 2 = 1) (hp1 : 2 ≤ p) (ha : a % 2 = 1) (hb : b % 2 = 1) (hab : a ≤ b) :
    ∃ a' b', a' < a ∧ a' ≤ b' ∧ a' % 2 = 1 ∧ b' % 2 = 1 ∧ b' < 200 ∧ a' * b' = a * b := by
  rw [Bool.and_eq_true, Nat.beq_eq] at h
  have h2 : p * b ≤ 199 := Nat.le_of_ble_eq_true h.2
  have e : a = p * (a / p) := by have := Nat.div_add_mod a p; rw [h.1] at this; omega
  have hodd : (p * (a / p)) % 2 = (p % 2) * (a / p % 2) % 2 := Nat.mul_mod ..
  have hodd2 : (p * b) % 2 = (p % 2) * (b % 2) % 2 := Nat.mul_mod ..
  rw [← e, hp, Nat.one_mul] at hodd
  rw [hp, hb] at hodd2
  have hlt : a / p < a := Nat.div_lt_self (by omega) hp1
  have hle : 1 * b ≤ p * b := Nat.mul_le_mul_right _ (by omega)
  refine ⟨a / p, p * b, hlt, by omega, by omega, by omega, by omega, ?_⟩
  rw [← Nat.mul_assoc, Nat.mul_comm (a / p) p, ← e]
theorem all_odd : ∀ (n a b : Nat), a ≤ n → a % 2 = 1 → b % 2 = 1 → a ≤ b → b < 200 → okAll (a * b)
  | 0, a, b, hn, ha, _, _, _ => by omega
  | n + 1, a, b, hn, ha, hb, hab, h => by
    rcases row_at ha hb hab h with hs | hs
    · unfold skip at hs
      rw [Bool.or_eq_true, Bool.or_eq_true, Bool.or_eq_true, Bool.or_eq_true, Nat.beq_eq] at hs
      have go : ∀ p, (Nat.beq (a % p) 0 && Nat.ble (p * b) 199) = true → p % 2 = 1 → 2 ≤ p → okAll (a * b) := fun p hp h1 h2 => by
        obtain ⟨a', b', k1, k2, k3, k4, k5, k6⟩ := step_p hp h1 h2 ha hb hab
        rw [← k6]
        exact all_odd n a' b' (by omega) k3 k4 k2 k5
      rcases hs with (((hs | hs) | hs) | hs) | hs
      · rw [hs]; exact okAll_one
      · exact go 3 hs (by decide) (by decide)
      · exact go 5 hs (by decide) (by decide)
      · exact go 7 hs (by decide) (by decide)
      · exact go 11 hs (by decide) (by decide)
    · exact hs
theorem odd_part : ∀ n x : Nat, x ≤ n → 0 < x → ∃ a i, x = a * 2 ^ i ∧ a % 2 = 1
  | 0, x, hn, h => by omega
  | n + 1, x, hn, h => by
    by_cases hx : x % 2 = 1
    · exact ⟨x, 0, by rw [Nat.pow_zero, Nat.mul_one], hx⟩
    · obtain ⟨a, i, e, ho⟩ := odd_part n (x / 2) (by omega) (by omega)
      refine ⟨a, i + 1, ?_, ho⟩
      rw [Nat.pow_succ, ← Nat.mul_assoc, ← e]
      omega
/-- Every product of two numbers to 200. -/
theorem ok_prod {x y : Nat} (hx : 0 < x) (hy : 0 < y) (hx2 : x ≤ 200) (hy2 : y ≤ 200) : okTen (x * y) := by
  obtain ⟨a, i, ea, ha⟩ := odd_part x x (Nat.le_refl _) hx
  obtain ⟨b, j, eb, hb⟩ := odd_part y y (Nat.le_refl _) hy
  have pi := Nat.two_pow_pos i
  have pj := Nat.two_pow_pos j
  have la : a ≤ 200 := by have : a * 1 ≤ a * 2 ^ i := Nat.mul_le_mul_left _ pi; omega
  have lb : b ≤ 200 := by have : b * 1 ≤ b * 2 ^ j := Nat.mul_le_mul_left _ pj; omega
  have e : x * y = a * b * 2 ^ (i + j) := by rw [ea, eb, Nat.pow_add, Nat.mul_mul_mul_comm]
  have hall : okAll (a * b) := by
    by_cases hab : a ≤ b
    · exact all_odd a a b (Nat.le_refl _) ha hb hab (by omega)
    · rw [Nat.mul_comm]
      exact all_odd b b a (Nat.le_refl _) hb ha (by omega) (by omega)
  have hxy : x * y ≤ 200 * 200 := Nat.mul_le_mul hx2 hy2
  have hp : 0 < a * b := Nat.mul_pos (by omega) (by omega)
  have hk : i + j ≤ topK (a * b) := by
    unfold topK
    have h1 : 2 ^ (i + j) ≤ 40000 / (a * b) := by
      rw [Nat.le_div_iff_mul_le hp, Nat.mul_comm, ← e]
      exact hxy
    have h0 : 40000 / (a * b) ≠ 0 := by have := Nat.two_pow_pos (i + j); omega
    exact (Nat.le_log2 h0).2 h1
  rw [e]
  exact hall _ hk

/-- The plain law. -/
theorem ok_bounds {n : Nat} {o : Int} (h : okT n o = true) : -190 ≤ o ∧ o ≤ 290 ∧ 10 ^ (5 * (o + 200)).toNat * base ≤ n ^ expo * lift * 1000 ∧ n ^ expo * lift ≤ 10 ^ (5 * (o + 200)).toNat * base * 1000 := by
  unfold okT at h
  rw [Bool.and_eq_true, Bool.and_eq_true, Bool.and_eq_true] at h
  exact ⟨of_decide_eq_true h.1.1.1, of_decide_eq_true h.1.1.2, of_decide_eq_true h.1.2, of_decide_eq_true h.2⟩
theorem base_eq : base = 64 ^ expo := by unfold base expo; exact Eq.refl _
theorem power_pos (a e : Nat) (h : 0 < a) : 0 < a ^ e := Nat.pow_pos h
theorem base_pos : 0 < base := by rw [base_eq]; exact power_pos 64 expo (by decide)
theorem turn_a (S T K : Nat) : T * K * S = S * T * K := by ac_rfl
theorem turn_b (P S K : Nat) : P * K * S = P * S * K := by ac_rfl
theorem low_law {pm pn po S T K X Y Z : Nat} (hS : 0 < S) (e : X * Y = S * Z) (l1 : pm * S ≤ X * T * K) (l2 : pn * S ≤ Y * T * K) (u : Z * T ≤ po * S * K) : pm * pn ≤ T * K * K * K * po := by
  have h1 := Nat.mul_le_mul l1 l2
  have h2 := Nat.mul_le_mul_right (S * T * K * K) u
  have e1 : pm * S * (pn * S) = pm * pn * (S * S) := by ac_rfl
  have e2 : X * T * K * (Y * T * K) = X * Y * (T * T * K * K) := by ac_rfl
  have e3 : S * Z * (T * T * K * K) = Z * T * (S * T * K * K) := by ac_rfl
  have e4 : po * S * K * (S * T * K * K) = T * K * K * K * po * (S * S) := by ac_rfl
  rw [e1, e2, e, e3] at h1
  rw [e4] at h2
  exact Nat.le_of_mul_le_mul_right (Nat.le_trans h1 h2) (Nat.mul_pos hS hS)
theorem high_law {pm pn po S T K X Y Z : Nat} (hS : 0 < S) (e : X * Y = S * Z) (u1 : X * T ≤ pm * S * K) (u2 : Y * T ≤ pn * S * K) (l : po * S ≤ Z * T * K) : po * T ≤ pm * pn * K * K * K := by
  have h1 := Nat.mul_le_mul_right K (Nat.mul_le_mul u1 u2)
  have h2 := Nat.mul_le_mul_right (S * T) l
  have e1 : X * T * (Y * T) * K = X * Y * (T * T * K) := by ac_rfl
  have e2 : Z * T * K * (S * T) = S * Z * (T * T * K) := by ac_rfl
  have e3 : pm * S * K * (pn * S * K) * K = pm * pn * K * K * K * (S * S) := by ac_rfl
  have e4 : po * S * (S * T) = po * T * (S * S) := by ac_rfl
  rw [e1, e, e3] at h1
  rw [e2, e4] at h2
  exact Nat.le_of_mul_le_mul_right (Nat.le_trans h2 h1) (Nat.mul_pos hS hS)
theorem pow_ten {a b : Nat} (h : 10 ^ a ≤ 10 ^ b) : a ≤ b := (Nat.pow_le_pow_iff_right (by decide)).1 h
/-- Tenths of a product and of both. -/
theorem tenths_law {i j : Nat} (hi : i < 200) (hj : j < 200) : ∃ m n o : Int, tenB (pT (8 * (1 + i))) = (m, true) ∧ tenB (pT (8 * (1 + j))) = (n, true) ∧ tenB (pT ((1 + i) * (1 + j))) = (o, true) ∧
    (-190 ≤ m ∧ m ≤ 290) ∧ (-190 ≤ n ∧ n ≤ 290) ∧ (-190 ≤ o ∧ o ≤ 290) ∧ m + n - o ≤ 1 ∧ o - m - n ≤ 1 := by
  obtain ⟨m, hm, om⟩ := ok_prod (x := 8) (y := 1 + i) (by decide) (by omega) (by decide) (by omega)
  obtain ⟨n, hn, on⟩ := ok_prod (x := 8) (y := 1 + j) (by decide) (by omega) (by decide) (by omega)
  obtain ⟨o, ho, oo⟩ := ok_prod (x := 1 + i) (y := 1 + j) (by omega) (by omega) (by omega) (by omega)
  obtain ⟨m1, m2, m3, m4⟩ := ok_bounds om
  obtain ⟨n1, n2, n3, n4⟩ := ok_bounds on
  obtain ⟨o1, o2, o3, o4⟩ := ok_bounds oo
  have e : (8 * (1 + i)) ^ expo * (8 * (1 + j)) ^ expo = base * ((1 + i) * (1 + j)) ^ expo := by
    rw [base_eq, ← Nat.mul_pow, ← Nat.mul_pow, Nat.mul_mul_mul_comm]
  obtain ⟨t, ht, tv⟩ : ∃ t, lift = 10 ^ t ∧ t = 1000 := ⟨1000, by unfold lift; exact Eq.refl _, Eq.refl _⟩
  have a := low_law base_pos e m3 n3 o4
  have b := high_law base_pos e m4 n4 o3
  have k : (1000 : Nat) = 10 ^ 3 := by decide
  rw [ht, k, ← Nat.pow_add, ← Nat.pow_add, ← Nat.pow_add, ← Nat.pow_add, ← Nat.pow_add] at a
  rw [ht, k, ← Nat.pow_add, ← Nat.pow_add, ← Nat.pow_add, ← Nat.pow_add, ← Nat.pow_add] at b
  have a' := pow_ten a
  have b' := pow_ten b
  exact ⟨m, n, o, hm, hn, ho, ⟨m1, m2⟩, ⟨n1, n2⟩, ⟨o1, o2⟩, by omega, by omega⟩
theorem ten_one : tenB 1065353216 = (0, true) := by
  obtain ⟨o, ho, oo⟩ := ok_prod (x := 8) (y := 8) (by decide) (by decide) (by decide) (by decide)
  obtain ⟨o1, o2, o3, o4⟩ := ok_bounds oo
  obtain ⟨t, ht, tv⟩ : ∃ t, lift = 10 ^ t ∧ t = 1000 := ⟨1000, by unfold lift; exact Eq.refl _, Eq.refl _⟩
  have e : (8 * 8) ^ expo = base := by rw [base_eq]
  have k : (1000 : Nat) = 10 ^ 3 := by decide
  rw [e] at o3 o4
  have a : 10 ^ (5 * (o + 200)).toNat ≤ lift * 1000 := Nat.le_of_mul_le_mul_right (c := base) (by rw [turn_a base lift 1000]; exact o3) base_pos
  have b : lift ≤ 10 ^ (5 * (o + 200)).toNat * 1000 := Nat.le_of_mul_le_mul_right (c := base) (by rw [turn_b _ base 1000, Nat.mul_comm]; exact o4) base_pos
  rw [ht, k, ← Nat.pow_add] at a b
  have a' := pow_ten a
  have b' := pow_ten b
  have h0 : o = 0 := by omega
  subst h0
  rw [show (1065353216 : Nat) = pT (8 * 8) by decide +kernel]
  exact ho
end Go.Proofs.Ythegbaaelccekaa
