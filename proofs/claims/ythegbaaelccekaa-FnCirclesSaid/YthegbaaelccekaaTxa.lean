/-
  TenthsOf at 64ths, by counting: a check that carries numbers, not terms, from step to step, and what it shows. No program, no condition.
-/
import Derived.Test.YthegbaaelccekaaTen
namespace Go.Proofs.Ythegbaaelccekaa
open Go.RowKit Ieee

/-- n / 64 in 32 bits. -/
def pT (n : Nat) : Nat := single.write (.number false n (-6))
def force (n : Nat) (k : Nat → Bool) : Bool := match n with | 0 => k 0 | m + 1 => k (m + 1)
def forceO (o : Option Nat) (k : Nat → Bool) : Bool := match o with | none => false | some n => force n k
theorem force_eq (n : Nat) (k : Nat → Bool) : force n k = k n := by cases n <;> rfl
theorem forceO_to {o : Option Nat} {k : Nat → Bool} (h : forceO o k = true) : ∃ n, o = some n ∧ k n = true := by
  cases o with
  | none => exact absurd h (by simp [forceO])
  | some n => exact ⟨n, rfl, by simpa [forceO, force_eq] using h⟩

/-- The next number in 64 bits, counted on naturals. -/
def fo {α : Type} (n : Nat) (k : Nat → α) : α := match n with | 0 => k 0 | m + 1 => k (m + 1)
theorem fo_eq {α : Type} (n : Nat) (k : Nat → α) : fo n k = k n := by cases n <;> rfl
def cutN (n d : Nat) : Nat := fo (Nat.pow 2 d) fun g => fo (Nat.div n g) fun low => fo (Nat.mul 2 (Nat.mod n g)) fun r => bif Nat.blt g r then Nat.succ low else bif Nat.beq g r then Nat.add low (Nat.mod low 2) else low
def nearQ (neg : Bool) (mag : Nat) (place : Int) : Nat :=
  match place with
  | Int.ofNat k => double.nearest neg mag (Int.ofNat k)
  | Int.negSucc k => fo mag fun mag => bif Nat.beq mag 0 then double.nearest neg mag (Int.negSucc k) else fo k fun k => fo (Nat.log2 mag) fun L =>
    bif Nat.ble k (Nat.add 1021 L) then
      fo (bif Nat.ble 52 L then cutN mag (Nat.sub L 52) else Nat.mul mag (Nat.pow 2 (Nat.sub 52 L))) fun kp =>
        fo (Nat.add (Nat.mul (Nat.sub (Nat.add 1021 L) k) 4503599627370496) kp) fun r => bif Nat.ble r 9218868437227405312 then bif neg then Nat.add 9223372036854775808 r else r else double.nearest neg mag (Int.negSucc k)
    else double.nearest neg mag (Int.negSucc k)
theorem cutN_eq (neg : Bool) (n d : Nat) (h : d ≤ n.log2) : cutN n d = Toward.even.cut neg n d := by
  have e : 1 <<< min d (n.log2 + 2) = 2 ^ d := by rw [Nat.min_eq_left (by omega), Nat.shiftLeft_eq, Nat.one_mul]
  unfold cutN Toward.cut
  simp only [fo_eq, e]
  show (bif Nat.blt (2 ^ d) (2 * (n % 2 ^ d)) then Nat.succ (n / 2 ^ d) else bif Nat.beq (2 ^ d) (2 * (n % 2 ^ d)) then n / 2 ^ d + (n / 2 ^ d) % 2 else n / 2 ^ d) = _
  by_cases h1 : 2 ^ d < 2 * (n % 2 ^ d)
  · have : Nat.blt (2 ^ d) (2 * (n % 2 ^ d)) = true := by rw [Nat.blt_eq]; exact h1
    rw [this]
    simp [h1]
  · have : Nat.blt (2 ^ d) (2 * (n % 2 ^ d)) = false := by
      cases hb : Nat.blt (2 ^ d) (2 * (n % 2 ^ d)) with
      | false => rfl
      | true => rw [Nat.blt_eq] at hb; exact absurd hb h1
    rw [this]
    by_cases h2 : 2 ^ d = 2 * (n % 2 ^ d)
    · have b2 : Nat.beq (2 ^ d) (2 * (n % 2 ^ d)) = true := by rw [Nat.beq_eq]; exact h2
      rw [b2]
      have hbeq : (2 ^ d == 2 * (n % 2 ^ d)) = true := by rw [← h2]; exact beq_self_eq_true _
      simp only [h1, decide_false, Bool.false_or, hbeq, Bool.true_and, cond_true, cond_false]
      rcases Nat.mod_two_eq_zero_or_one (n / 2 ^ d) with h3 | h3 <;> rw [h3] <;> rfl
    · have b2 : Nat.beq (2 ^ d) (2 * (n % 2 ^ d)) = false := by
        cases hb : Nat.beq (2 ^ d) (2 * (n % 2 ^ d)) with
        | false => rfl
        | true => rw [Nat.beq_eq] at hb; exact absurd hb h2
      rw [b2]
      have hbeq : (2 ^ d == 2 * (n % 2 ^ d)) = false := by simpa using h2
      simp [h1, hbeq]
theorem nearest_at (neg : Bool) (mag k : Nat) (h0 : mag ≠ 0) (hk : k ≤ 1021 + mag.log2) (hr : (1021 + mag.log2 - k) * 4503599627370496 + Toward.even.cut neg (mag <<< (52 - mag.log2)) (mag.log2 - 52) ≤ 9218868437227405312) :
    double.nearest neg mag (Int.negSucc k) = double.word neg ((1021 + mag.log2 - k) * 4503599627370496 + Toward.even.cut neg (mag <<< (52 - mag.log2)) (mag.log2 - 52)) := by
  have e1 : double.leastPlace = -1074 := rfl
  have e2 : double.fractionBits = 52 := rfl
  have e3 : double.binade = 4503599627370496 := rfl
  have e4 : double.infRung = 9218868437227405312 := rfl
  have el : max (Int.negSucc k + (mag.log2 : Int) - ((52 : Nat) : Int)) (-1074) = (mag.log2 : Int) - 53 - k := by omega
  have f1 : (Int.negSucc k - ((mag.log2 : Int) - 53 - k)).toNat = 52 - mag.log2 := by omega
  have f2 : ((mag.log2 : Int) - 53 - k - Int.negSucc k).toNat = mag.log2 - 52 := by omega
  have f3 : ((mag.log2 : Int) - 53 - k - -1074).toNat = 1021 + mag.log2 - k := by omega
  unfold Format.nearest
  rw [if_neg h0]
  simp only [e1, e2, e3, e4, el, f1, f2, f3]
  rw [Nat.min_eq_left hr]
theorem kept_at (neg : Bool) (mag : Nat) : (bif Nat.ble 52 mag.log2 then cutN mag (mag.log2 - 52) else mag * 2 ^ (52 - mag.log2)) = Toward.even.cut neg (mag <<< (52 - mag.log2)) (mag.log2 - 52) := by
  cases h52 : Nat.ble 52 mag.log2 with
  | true =>
    have h : 52 ≤ mag.log2 := Nat.le_of_ble_eq_true h52
    have g : 52 - mag.log2 = 0 := by omega
    rw [g, Nat.shiftLeft_zero]
    exact cutN_eq neg mag (mag.log2 - 52) (by omega)
  | false =>
    have h : ¬ 52 ≤ mag.log2 := fun h => by rw [Nat.ble_eq_true_of_le h] at h52; cases h52
    have g : mag.log2 - 52 = 0 := by omega
    rw [g, Nat.shiftLeft_eq]
    unfold Toward.cut
    simp [Nat.mod_one]
theorem word_at (neg : Bool) (r : Nat) : (bif neg then 9223372036854775808 + r else r) = double.word neg r := by
  have e5 : double.signWeight = 9223372036854775808 := rfl
  unfold Format.word
  rw [e5]
  cases neg
  · rw [cond_false, if_neg (by decide)]
  · rw [cond_true, if_pos (by decide)]
theorem nearQ_eq (neg : Bool) (mag : Nat) (place : Int) : nearQ neg mag place = double.nearest neg mag place := by
  unfold nearQ
  split
  · rfl
  · rename_i k
    simp only [fo_eq, Nat.add_eq, Nat.mul_eq, Nat.sub_eq, Nat.pow_eq]
    cases h0 : Nat.beq mag 0 with
    | true => rw [cond_true]
    | false =>
      have h0' : mag ≠ 0 := fun h => by rw [h] at h0; cases h0
      cases hb : Nat.ble k (1021 + mag.log2) with
      | false => rw [cond_false, cond_false]
      | true =>
        have hk : k ≤ 1021 + mag.log2 := Nat.le_of_ble_eq_true hb
        rw [cond_false, cond_true, kept_at neg mag]
        have hn := nearest_at neg mag k h0' hk
        generalize (1021 + mag.log2 - k) * 4503599627370496 + Toward.even.cut neg (mag <<< (52 - mag.log2)) (mag.log2 - 52) = r at hn ⊢
        cases hb2 : Nat.ble r 9218868437227405312 with
        | false => rw [cond_false]
        | true => rw [cond_true, word_at, hn (Nat.le_of_ble_eq_true hb2)]
theorem beq_at (a b : Nat) : Nat.beq a b = (a == b) := by
  cases h : Nat.beq a b with
  | true => rw [Nat.beq_eq] at h; subst h; exact (beq_self_eq_true a).symm
  | false =>
    have : a ≠ b := fun e => by rw [e, show Nat.beq b b = true by rw [Nat.beq_eq]] at h; cases h
    simp [this]
def writeQ : Datum → Nat | .number neg mag place => nearQ neg mag place | d => double.write d
theorem writeQ_eq : writeQ = double.write := by
  funext d
  cases d with
  | number s m p => exact nearQ_eq s m p
  | infinity s => rfl
  | nan s t => rfl
def readQ (w : Nat) : Datum :=
  fo w fun w => fo (Nat.mod w 9223372036854775808) fun r => fo (Nat.div r 4503599627370496) fun e =>
   bif Nat.beq e 0 then double.read w else bif Nat.ble e 2046 then .number (Nat.beq (Nat.mod (Nat.div w 9223372036854775808) 2) 1) (Nat.add 4503599627370496 (Nat.mod r 4503599627370496)) (Int.subNatNat e 1075) else double.read w
theorem readQ_eq (w : Nat) : readQ w = double.read w := by
  unfold readQ
  simp only [fo_eq]
  cases h1 : Nat.beq (Nat.div (Nat.mod w 9223372036854775808) 4503599627370496) 0 with
  | true => rfl
  | false =>
    cases h2 : Nat.ble (Nat.div (Nat.mod w 9223372036854775808) 4503599627370496) 2046 with
    | false => rfl
    | true =>
      have g2 : (w % 9223372036854775808) / 4503599627370496 ≤ 2046 := Nat.le_of_ble_eq_true h2
      have g1 : (w % 9223372036854775808) / 4503599627370496 ≠ 0 := fun h => by rw [show Nat.div (Nat.mod w 9223372036854775808) 4503599627370496 = 0 from h] at h1; cases h1
      have e1 : double.leastPlace = -1074 := rfl
      have e3 : double.binade = 4503599627370496 := rfl
      have e4 : double.infRung = 9218868437227405312 := rfl
      have e5 : double.signWeight = 9223372036854775808 := rfl
      unfold Format.read
      simp only [e1, e3, e4, e5]
      rw [if_neg (by omega), if_pos (by omega)]
      show Datum.number (Nat.beq (w / 9223372036854775808 % 2) 1) (4503599627370496 + w % 9223372036854775808 % 4503599627370496) (Int.subNatNat (w % 9223372036854775808 / 4503599627370496) 1075) = _
      rw [show Int.subNatNat (w % 9223372036854775808 / 4503599627370496) 1075 = -1074 + ((w % 9223372036854775808 / 4503599627370496 - 1 : Nat) : Int) by rw [Int.subNatNat_eq_coe]; omega, beq_at]
def addQ (x y : Nat) : Option Nat := ((readQ x).sum (readQ y)).map writeQ
def subQ (x y : Nat) : Option Nat := ((readQ x).sum (readQ y).opposite).map writeQ
def mulQ (x y : Nat) : Option Nat := ((readQ x).product (readQ y)).map writeQ
def quoQ (x y : Nat) : Option Nat := ((readQ x).quotient 54 (readQ y)).map writeQ
theorem addQ_eq (x y : Nat) : fadd (some x) (some y) = addQ x y := by unfold addQ; rw [readQ_eq, readQ_eq, writeQ_eq]; exact fop_add x y
theorem subQ_eq (x y : Nat) : fsub (some x) (some y) = subQ x y := by unfold subQ; rw [readQ_eq, readQ_eq, writeQ_eq]; exact fop_sub x y
theorem mulQ_eq (x y : Nat) : fmul (some x) (some y) = mulQ x y := by unfold mulQ; rw [readQ_eq, readQ_eq, writeQ_eq]; exact fop_mul x y
theorem quoQ_eq (x y : Nat) : fquo (some x) (some y) = quoQ x y := by unfold quoQ; rw [readQ_eq, readQ_eq, writeQ_eq]; exact fop_quo x y

theorem norm_read {x : Nat} (h1 : 4503599627370496000 ≤ x) (h2 : x < 4818851601286430720) :
    ∃ e f, x = (e + 1000) * 4503599627370496 + f ∧ e < 70 ∧ f < 4503599627370496 ∧ double.read x = .number false (4503599627370496 + f) (Int.negSucc (74 - e)) := by
  refine ⟨x / 4503599627370496 - 1000, x % 4503599627370496, by omega, by omega, by omega, ?_⟩
  rw [← readQ_eq]
  unfold readQ
  have e0 : x % 9223372036854775808 = x := by omega
  have e1 : x / 9223372036854775808 = 0 := by omega
  have b1 : Nat.beq (x / 4503599627370496) 0 = false := by
    cases h : Nat.beq (x / 4503599627370496) 0 with
    | false => rfl
    | true => rw [Nat.beq_eq] at h; omega
  have b2 : Nat.ble (x / 4503599627370496) 2046 = true := Nat.ble_eq_true_of_le (by omega)
  have s : Int.subNatNat (x / 4503599627370496) 1075 = Int.negSucc (74 - (x / 4503599627370496 - 1000)) := by rw [Int.subNatNat_eq_coe]; omega
  have hdiv : ∀ a b, Nat.div a b = a / b := fun _ _ => rfl
  have hmod : ∀ a b, Nat.mod a b = a % b := fun _ _ => rfl
  simp only [fo_eq, hdiv, hmod, e0, e1, b1, b2, s, cond_true, cond_false, Nat.add_eq]
  rfl
theorem log_52 {f : Nat} (h : f < 4503599627370496) (k : Nat) : ((4503599627370496 + f) * 2 ^ k).log2 = 52 + k := by
  have h0 : (4503599627370496 + f) * 2 ^ k ≠ 0 := Nat.mul_ne_zero (by omega) (Nat.pos_iff_ne_zero.1 (Nat.two_pow_pos k))
  have hp := Nat.two_pow_pos k
  have a : 2 ^ (52 + k) ≤ (4503599627370496 + f) * 2 ^ k := by rw [Nat.pow_add]; exact Nat.mul_le_mul_right _ (by omega)
  have b : (4503599627370496 + f) * 2 ^ k < 2 ^ (52 + k + 1) := by
    rw [show 52 + k + 1 = 53 + k by omega, Nat.pow_add]
    exact Nat.mul_lt_mul_of_pos_right (by omega) hp
  have c := (Nat.le_log2 h0).2 a
  have d := (Nat.log2_lt h0).2 b
  omega
theorem cut_at (neg : Bool) {f : Nat} (h : f < 4503599627370496) (k : Nat) : Toward.even.cut neg (((4503599627370496 + f) * 2 ^ k) <<< (52 - ((4503599627370496 + f) * 2 ^ k).log2)) (((4503599627370496 + f) * 2 ^ k).log2 - 52) = 4503599627370496 + f := by
  rw [log_52 h k, show 52 - (52 + k) = 0 by omega, show 52 + k - 52 = k by omega, Nat.shiftLeft_zero, ← cutN_eq neg _ _ (by rw [log_52 h k]; omega)]
  have hp := Nat.two_pow_pos k
  have hdiv : ∀ a b, Nat.div a b = a / b := fun _ _ => rfl
  have hmod : ∀ a b, Nat.mod a b = a % b := fun _ _ => rfl
  unfold cutN
  simp only [fo_eq, hdiv, hmod, Nat.pow_eq, Nat.mul_eq, Nat.add_eq]
  rw [Nat.mul_mod_left, Nat.mul_div_cancel _ hp, Nat.mul_zero]
  have b1 : Nat.blt (2 ^ k) 0 = false := by
    cases h : Nat.blt (2 ^ k) 0 with
    | false => rfl
    | true => rw [Nat.blt_eq] at h; omega
  have b2 : Nat.beq (2 ^ k) 0 = false := by
    cases h : Nat.beq (2 ^ k) 0 with
    | false => rfl
    | true => rw [Nat.beq_eq] at h; omega
  rw [b1, b2]
  rfl
theorem near_at {f : Nat} (h : f < 4503599627370496) (j k : Nat) (h1 : j ≤ 1073 + k) (h2 : 1073 + k - j < 2000) : double.nearest false ((4503599627370496 + f) * 2 ^ k) (Int.negSucc j) = (1073 + k - j) * 4503599627370496 + (4503599627370496 + f) := by
  have h0 : (4503599627370496 + f) * 2 ^ k ≠ 0 := Nat.mul_ne_zero (by omega) (Nat.pos_iff_ne_zero.1 (Nat.two_pow_pos k))
  have e : 1021 + (52 + k) - j = 1073 + k - j := by omega
  have := nearest_at false ((4503599627370496 + f) * 2 ^ k) j h0 (by rw [log_52 h k]; omega) (by rw [cut_at false h k, log_52 h k, e]; omega)
  rw [this, cut_at false h k, log_52 h k, e]
  rfl
theorem half_at {x : Nat} (h1 : 4503599627370496000 ≤ x) (h2 : x < 4818851601286430720) : fquo (some x) (some 4611686018427387904) = some (x - 4503599627370496) := by
  obtain ⟨e, f, hx, he, hf, hr⟩ := norm_read h1 h2
  have l : (4503599627370496 + f).log2 = 52 := by simpa using log_52 hf 0
  have l2 : (2 ^ 52 : Nat).log2 = 52 := by decide +kernel
  show fop .quo .f64 _ _ = _
  rw [fop_quo, hr, two_read]
  unfold Datum.quotient
  simp only [l, l2]
  rw [if_neg (by decide)]
  have a : (4503599627370496 + f) <<< (54 + 52 - 52) = (4503599627370496 + f) * 4 * 2 ^ 52 := by rw [Nat.shiftLeft_eq, Nat.mul_assoc]
  rw [a, Nat.mul_div_cancel _ (Nat.two_pow_pos 52), Nat.mul_mod_left]
  show some (double.nearest false (2 * ((4503599627370496 + f) * 4) + 0) (Int.negSucc (74 - e) - -51 - (54 : Nat) - 1)) = _
  rw [show 2 * ((4503599627370496 + f) * 4) + 0 = (4503599627370496 + f) * 2 ^ 3 by omega, show Int.negSucc (74 - e) - -51 - ((54 : Nat) : Int) - 1 = Int.negSucc (78 - e) by omega, near_at hf _ 3 (by omega) (by omega)]
  refine congrArg some ?_
  omega
theorem twice_at {x : Nat} (h1 : 4503599627370496000 ≤ x) (h2 : x < 4818851601286430720) : fmul (some x) (some 4611686018427387904) = some (x + 4503599627370496) := by
  obtain ⟨e, f, hx, he, hf, hr⟩ := norm_read h1 h2
  show fop .mul .f64 _ _ = _
  have hp : ∀ p q : Int, ∀ m n : Nat, (Datum.number false m p).product (Datum.number false n q) = some (Datum.number false (m * n) (p + q)) := fun _ _ _ _ => rfl
  have hw : ∀ p : Int, ∀ m : Nat, (some (Datum.number false m p)).map double.write = some (double.nearest false m p) := fun _ _ => rfl
  rw [fop_mul, hr, two_read, hp, hw]
  rw [show Int.negSucc (74 - e) + -51 = Int.negSucc (125 - e) by omega, near_at hf _ 52 (by omega) (by omega)]
  refine congrArg some ?_
  omega
theorem c_two : fc 4611686018427387904 = some 4611686018427387904 := by decide +kernel
theorem c_one : fc 4607182418800017408 = some 4607182418800017408 := by decide +kernel
theorem c_hi : fc 4609434218613702656 = some 4609434218613702656 := by decide +kernel
theorem c_lo : fc 4604930618986332160 = some 4604930618986332160 := by decide +kernel
theorem c_ln : fc 4604418534313441775 = some 4604418534313441775 := by decide +kernel
theorem c_db : fc 4631308968768463603 = some 4631308968768463603 := by decide +kernel
theorem c_hf : fc 4602678819172646912 = some 4602678819172646912 := by decide +kernel
theorem c_nil : fc 0 = some 0 := by decide +kernel

/-- Halved, doubled until it lies between 3/4 and 3/2. -/
def nH : Nat → Nat → Nat → (Nat → Nat → Bool) → Bool
  | 0, x, k, K => K x k
  | g + 1, x, k, K => bif fge (some x) (some 4609434218613702656) then (bif Nat.ble 4503599627370496000 x then (bif Nat.blt x 4818851601286430720 then fo (Nat.sub x 4503599627370496) fun y => fo (Nat.succ k) fun k' => nH g y k' K else false) else false) else K x k
def nD : Nat → Nat → Nat → (Nat → Nat → Bool) → Bool
  | 0, x, k, K => K x k
  | g + 1, x, k, K => bif flt (some x) (some 4604930618986332160) then (bif Nat.ble 4503599627370496000 x then (bif Nat.blt x 4818851601286430720 then fo (Nat.add x 4503599627370496) fun y => fo (Nat.succ k) fun k' => nD g y k' K else false) else false) else K x k
theorem itH_in (x : Option Nat) : ∀ j, itH (fquo x (fc 4611686018427387904)) j = itH x (j + 1)
  | 0 => rfl
  | j + 1 => by show fquo (itH _ j) _ = fquo (itH x (j + 1)) _; rw [itH_in x j]
theorem itD_in (x : Option Nat) : ∀ j, itD (fmul x (fc 4611686018427387904)) j = itD x (j + 1)
  | 0 => rfl
  | j + 1 => by show fmul (itD _ j) _ = fmul (itD x (j + 1)) _; rw [itD_in x j]
theorem in_if {a b c : Bool} (h : (bif a then (bif b then c else false) else false) = true) : a = true ∧ b = true ∧ c = true := by
  cases a <;> cases b <;> simp_all
theorem nH_to : ∀ g x k K, nH g x k K = true → ∃ y, itH (some x) (numH (some x) g) = some y ∧ K y (k + numH (some x) g) = true
  | 0, x, k, K, h => ⟨x, rfl, h⟩
  | g + 1, x, k, K, h => by
    unfold nH at h
    have e0 : numH (some x) (g + 1) = if fge (some x) (some 4609434218613702656) = true then numH (fquo (some x) (some 4611686018427387904)) g + 1 else 0 := by
      show (if fge (some x) (fc 4609434218613702656) = true then numH (fquo (some x) (fc 4611686018427387904)) g + 1 else 0) = _
      rw [c_hi, c_two]
    cases c : fge (some x) (some 4609434218613702656) with
    | true =>
      rw [c, cond_true] at h
      obtain ⟨b1, b2, h⟩ := in_if h
      rw [fo_eq, fo_eq] at h
      have hy := half_at (Nat.le_of_ble_eq_true b1) (by rw [Nat.blt_eq] at b2; exact b2)
      obtain ⟨z, hz, hK⟩ := nH_to g _ (k + 1) K h
      rw [c, if_pos rfl, hy] at e0
      refine ⟨z, ?_, ?_⟩
      · rw [e0, ← itH_in, c_two, hy]; exact hz
      · rw [e0, ← Nat.add_assoc, Nat.add_right_comm]; exact hK
    | false =>
      rw [c, cond_false] at h
      rw [c, if_neg (by decide)] at e0
      exact ⟨x, by rw [e0]; rfl, by rw [e0]; exact h⟩
theorem nD_to : ∀ g x k K, nD g x k K = true → ∃ y, itD (some x) (numD (some x) g) = some y ∧ K y (k + numD (some x) g) = true
  | 0, x, k, K, h => ⟨x, rfl, h⟩
  | g + 1, x, k, K, h => by
    unfold nD at h
    have e0 : numD (some x) (g + 1) = if flt (some x) (some 4604930618986332160) = true then numD (fmul (some x) (some 4611686018427387904)) g + 1 else 0 := by
      show (if flt (some x) (fc 4604930618986332160) = true then numD (fmul (some x) (fc 4611686018427387904)) g + 1 else 0) = _
      rw [c_lo, c_two]
    cases c : flt (some x) (some 4604930618986332160) with
    | true =>
      rw [c, cond_true] at h
      obtain ⟨b1, b2, h⟩ := in_if h
      rw [fo_eq, fo_eq] at h
      have hy := twice_at (Nat.le_of_ble_eq_true b1) (by rw [Nat.blt_eq] at b2; exact b2)
      obtain ⟨z, hz, hK⟩ := nD_to g _ (k + 1) K h
      rw [c, if_pos rfl, hy] at e0
      refine ⟨z, ?_, ?_⟩
      · rw [e0, ← itD_in, c_two, hy]; exact hz
      · rw [e0, ← Nat.add_assoc, Nat.add_right_comm]; exact hK
    | false =>
      rw [c, cond_false] at h
      rw [c, if_neg (by decide)] at e0
      exact ⟨x, by rw [e0]; rfl, by rw [e0]; exact h⟩

def hA (u : Nat) : List Nat → Nat → (Nat → Bool) → Bool
  | [], a, K => K a
  | c :: l, a, K => forceO (mulQ u a) fun t => forceO (addQ c t) fun r => hA u l r K
theorem hA_to (u : Nat) : ∀ (l : List Nat) (j a : Nat) K, (∀ i, i < l.length → fquo (fc 4607182418800017408) (kL (j + i)) = some (l.getD i 0)) → qA (some u) j = some a → hA u l a K = true → ∃ r, qA (some u) (j + l.length) = some r ∧ K r = true
  | [], j, a, K, _, ha, h => ⟨a, ha, h⟩
  | c :: l, j, a, K, hl, ha, h => by
    unfold hA at h
    obtain ⟨t, ht, h⟩ := forceO_to h
    obtain ⟨r, hr, h⟩ := forceO_to h
    have e : qA (some u) (j + 1) = some r := by
      show fadd (fquo (fc 4607182418800017408) (kL j)) (fmul (some u) (qA (some u) j)) = _
      rw [ha, mulQ_eq, ht, show fquo (fc 4607182418800017408) (kL j) = some c from hl 0 (by simp), addQ_eq, hr]
    obtain ⟨r', h1, h2⟩ := hA_to u l (j + 1) r K (fun i hi => by
      have := hl (i + 1) (by simpa using hi)
      rw [show j + 1 + i = j + (i + 1) by omega]
      simpa using this) e h
    exact ⟨r', by rw [show j + (c :: l).length = j + 1 + l.length by simp; omega]; exact h1, h2⟩
def kTn : List Nat := [4585925428558828667, 4586426698778222948, 4587023449039406616, 4587745830934523688, 4588638185040256542,
  4589468260265693457, 4590207312512236308, 4591215111030249286, 4592670820000712476, 4594314991293244562,
  4596373779694328218, 4599676419421066581, 4607182418800017408]
theorem kTn_is : ∀ i, i < kTn.length → fquo (fc 4607182418800017408) (kL (0 + i)) = some (kTn.getD i 0) := by
  have : ∀ i : Fin 13, fquo (fc 4607182418800017408) (kL (0 + i)) = some (kTn.getD i 0) := by decide +kernel
  exact fun i hi => this ⟨i, hi⟩


/-- What a reduced number gives, and with its exponent. -/
def chkZ (z : Nat) (K : Nat → Bool) : Bool :=
  forceO (subQ z 4607182418800017408) fun a => forceO (addQ z 4607182418800017408) fun b => forceO (quoQ a b) fun s =>
  forceO (mulQ s s) fun u => hA u kTn 0 fun q => forceO (mulQ s q) fun t => forceO (mulQ 4611686018427387904 t) K
def twZ (z : Nat) : Option Nat := fmul (fc 4611686018427387904) (fmul (sL (some z)) (qA (fmul (sL (some z)) (sL (some z))) 13))
theorem chkZ_to {z : Nat} {K : Nat → Bool} (h : chkZ z K = true) : ∃ t, twZ z = some t ∧ K t = true := by
  unfold chkZ at h
  obtain ⟨a, ha, h⟩ := forceO_to h
  obtain ⟨b, hb, h⟩ := forceO_to h
  obtain ⟨s, hs, h⟩ := forceO_to h
  obtain ⟨u, hu, h⟩ := forceO_to h
  obtain ⟨q, hq, h⟩ := hA_to u kTn 0 0 _ kTn_is c_nil h
  obtain ⟨t, ht, h⟩ := forceO_to h
  obtain ⟨t2, ht2, h⟩ := forceO_to h
  refine ⟨t2, ?_, h⟩
  have es : sL (some z) = some s := by unfold sL; rw [c_one, subQ_eq, addQ_eq, ha, hb, quoQ_eq, hs]
  have hq' : qA (some u) 13 = some q := hq
  unfold twZ
  rw [es, mulQ_eq, hu, hq', mulQ_eq, ht, c_two, mulQ_eq, ht2]
def chkE (t2 : Nat) (e : Int) (K : Nat → Bool) : Bool :=
  fo (floatOfInt .f64 e) fun eb => forceO (mulQ eb 4604418534313441775) fun t3 => forceO (addQ t2 t3) fun l => forceO (mulQ l 4631308968768463603) fun d => forceO (addQ d 4602678819172646912) K
theorem chkE_to {z t2 : Nat} {e : Int} {K : Nat → Bool} (hz : twZ z = some t2) (h : chkE t2 e K = true) : ∃ b, tenX (logG (some z) e) = some b ∧ K b = true := by
  unfold chkE at h
  rw [fo_eq] at h
  obtain ⟨t3, ht3, h⟩ := forceO_to h
  obtain ⟨l, hl, h⟩ := forceO_to h
  obtain ⟨d, hd, h⟩ := forceO_to h
  obtain ⟨r, hr, h⟩ := forceO_to h
  refine ⟨r, ?_, h⟩
  have hz' : fmul (fc 4611686018427387904) (fmul (sL (some z)) (qA (fmul (sL (some z)) (sL (some z))) 13)) = some t2 := hz
  unfold tenX logG
  rw [hz', c_ln, mulQ_eq, ht3, addQ_eq, hl, c_db, mulQ_eq, hd, c_hf, addQ_eq, hr]

/-- Three fifths of a tenth of a decibel on either side. -/
def expo : Nat := 500
def base : Nat := 64 ^ 500
def lift : Nat := 10 ^ 1000
def okT (n : Nat) (o : Int) : Bool := decide (-190 ≤ o) && decide (o ≤ 290) && decide (10 ^ (5 * (o + 200)).toNat * base ≤ n ^ expo * lift * 1000) && decide (n ^ expo * lift ≤ 10 ^ (5 * (o + 200)).toNat * base * 1000)
def okTen (n : Nat) : Prop := ∃ o, tenB (pT n) = (o, true) ∧ okT n o = true
def chkN (z t2 n : Nat) : Bool :=
  fo (pT n) fun p => finB (fv .f32 p) && forceO (wid (fv .f32 p)) fun X => !flt (some X) (some 0) && !feq (some X) (some 0) &&
    nH 128 X 0 fun x1 k1 => nD 149 x1 0 fun z' k2 => Nat.beq z' z && chkE t2 ((k1 : Int) - (k2 : Int)) fun b => match toi (some (floorB b)) with | some o => okT n o | none => false
theorem chkN_to {z t2 n : Nat} (hz : twZ z = some t2) (h : chkN z t2 n = true) : okTen n := by
  unfold chkN at h
  rw [fo_eq, Bool.and_eq_true] at h
  obtain ⟨hf, h⟩ := h
  obtain ⟨X, hX, h⟩ := forceO_to h
  rw [Bool.and_eq_true, Bool.and_eq_true] at h
  obtain ⟨⟨h1, h2⟩, h⟩ := h
  obtain ⟨x1, e1, h⟩ := nH_to _ _ _ _ h
  obtain ⟨z', e2, g⟩ := nD_to _ _ _ _ h
  rw [Bool.and_eq_true, Nat.beq_eq] at g
  obtain ⟨hzz, g2⟩ := g
  rw [← hzz] at hz
  clear h
  obtain ⟨b, e3, h⟩ := chkE_to hz g2
  cases ht : toi (some (floorB b)) with
  | none => rw [ht] at h; exact absurd h (by simp)
  | some o =>
    rw [ht] at h
    refine ⟨o, ?_, h⟩
    have l : tenX (logF (wid (fv .f32 (pT n)))) = some b := by
      rw [hX]
      unfold logF x2L x1L
      rw [Nat.zero_add, Nat.zero_add] at e3
      rw [e1, e2]
      exact e3
    unfold tenB
    rw [if_pos ⟨hf, by rw [hX, c_nil]; simpa using h1, by rw [hX, c_nil]; simpa using h2⟩, tenF_of l ht]
    rfl
def loopK : Nat → Nat → (Nat → Bool) → Bool
  | 0, n, P => P n
  | j + 1, n, P => P n && fo (Nat.mul n 2) fun n' => loopK j n' P
theorem loopK_to : ∀ j n P, loopK j n P = true → ∀ k, k ≤ j → P (n * 2 ^ k) = true
  | 0, n, P, h, k, hk => by rw [show k = 0 by omega, Nat.pow_zero, Nat.mul_one]; exact h
  | j + 1, n, P, h, k, hk => by
    unfold loopK at h
    rw [Bool.and_eq_true, fo_eq] at h
    cases k with
    | zero => rw [Nat.pow_zero, Nat.mul_one]; exact h.1
    | succ k =>
      have := loopK_to j _ P h.2 k (by omega)
      rw [Nat.mul_eq] at this
      rw [Nat.pow_succ, Nat.mul_comm (2 ^ k) 2, ← Nat.mul_assoc]
      exact this
def topK (o : Nat) : Nat := Nat.log2 (40000 / o)
/-- Every number o * 2 ^ k to 40000. -/
def chkO (o : Nat) : Bool :=
  forceO (wid (fv .f32 (pT o))) fun X => nH 128 X 0 fun x1 _ => nD 149 x1 0 fun z _ => chkZ z fun t2 => fo (topK o) fun K => loopK K o (chkN z t2)
def okAll (o : Nat) : Prop := ∀ k, k ≤ topK o → okTen (o * 2 ^ k)
theorem chkO_to {o : Nat} (h : chkO o = true) : okAll o := by
  intro k hk
  unfold chkO at h
  obtain ⟨X, _, h⟩ := forceO_to h
  obtain ⟨x1, _, h⟩ := nH_to _ _ _ _ h
  obtain ⟨z, _, h⟩ := nD_to _ _ _ _ h
  obtain ⟨t2, ht, h⟩ := chkZ_to h
  rw [fo_eq] at h
  exact chkN_to ht (loopK_to _ _ _ h k hk)
/-- At one the quotient is nought. -/
theorem qA_nil : ∀ j, j < 13 → qA (some 0) (j + 1) = some (kTn.getD j 0)
  | 0, _ => by
    show fadd (fquo (fc 4607182418800017408) (kL 0)) (fmul (some 0) (qA (some 0) 0)) = _
    rw [show fquo (fc 4607182418800017408) (kL 0) = some (kTn.getD 0 0) from kTn_is 0 (by decide), show fmul (some 0) (qA (some 0) 0) = some 0 by decide +kernel]
    decide +kernel
  | j + 1, h => by
    show fadd (fquo (fc 4607182418800017408) (kL (j + 1))) (fmul (some 0) (qA (some 0) (j + 1))) = _
    have t : ∀ i : Fin 13, fmul (some 0) (some (kTn.getD i 0)) = some 0 ∧ fadd (some (kTn.getD i 0)) (some 0) = some (kTn.getD i 0) := by decide +kernel
    have hk : fquo (fc 4607182418800017408) (kL (j + 1)) = some (kTn.getD (j + 1) 0) := by
      have := kTn_is (j + 1) (by simpa [kTn] using h)
      rwa [Nat.zero_add] at this
    rw [qA_nil j (by omega), hk, (t ⟨j, by omega⟩).1, (t ⟨j + 1, h⟩).2]
theorem twZ_one : twZ 4607182418800017408 = some 0 := by
  have s0 : sL (some 4607182418800017408) = some 0 := by decide +kernel
  have q0 : fmul (some 0) (some 0) = some 0 := by decide +kernel
  unfold twZ
  rw [s0, q0, show qA (some 0) 13 = some (kTn.getD 12 0) from qA_nil 12 (by decide), show kTn.getD 12 0 = 4607182418800017408 from rfl,
    show fmul (some 0) (some 4607182418800017408) = some 0 by decide +kernel]
  decide +kernel
theorem one_row : loopK 15 1 (chkN 4607182418800017408 0) = true := by decide +kernel
theorem one_top : topK 1 = 15 := by decide +kernel
theorem okAll_one : okAll 1 := by
  intro k hk
  rw [one_top] at hk
  have h := loopK_to 15 1 (chkN 4607182418800017408 0) one_row k hk
  exact chkN_to twZ_one h
/-- A pair with a smaller one of the same product; one and one. -/
def skip (a b : Nat) : Bool := Nat.beq (a * b) 1 || (Nat.beq (a % 3) 0 && Nat.ble (3 * b) 199) || (Nat.beq (a % 5) 0 && Nat.ble (5 * b) 199) || (Nat.beq (a % 7) 0 && Nat.ble (7 * b) 199) || (Nat.beq (a % 11) 0 && Nat.ble (11 * b) 199)
def rowC (i : Nat) : Bool := (List.range (100 - i)).all fun d => skip (2 * i + 1) (2 * (i + d) + 1) || fo ((2 * i + 1) * (2 * (i + d) + 1)) chkO
end Go.Proofs.Ythegbaaelccekaa
