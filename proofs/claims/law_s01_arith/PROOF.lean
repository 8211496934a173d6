import PyProof.Rows.All
import Wide.All
import OpenK.AllK
import Wide.FinOn
import Open.SpecLaws
import KE.OsGo
import HandS.ForSpec
import HandS.Comp
import HandS.Iter
import HandS.Walk
import HandS.Wide
import HandS.WideBits
import HandS.TupLe
import HandS.Text
import PySem.Challenge.RW_halfrows_s01_arith
set_option Elab.async false
set_option linter.all false
set_option maxRecDepth 100000
set_option maxHeartbeats 4000000
namespace Hr
/-! ### bit lengths -/
def len (n : Nat) : Nat := if n = 0 then 0 else n.log2 + 1
theorem len_zero : len 0 = 0 := rfl
theorem lt_len (n : Nat) : n < 2 ^ len n := by
  unfold len
  split
  · subst n; decide
  · exact Nat.lt_log2_self
theorem len_le {n : Nat} (h : 0 < n) : 2 ^ (len n - 1) ≤ n := by
  unfold len
  rw [if_neg (by omega)]
  exact Nat.log2_self_le (by omega)
theorem pow_lt_pow {a b : Nat} (h : 2 ^ a < 2 ^ b) : a < b := (Nat.pow_lt_pow_iff_right (by decide)).mp h
theorem pow_le_pow {a b : Nat} (h : a ≤ b) : 2 ^ a ≤ 2 ^ b := Nat.pow_le_pow_right (by decide) h
theorem pow_pos (a : Nat) : 0 < 2 ^ a := Nat.pow_pos (by decide)
theorem len_unique {n k : Nat} (h0 : 2 ^ k ≤ n) (h1 : n < 2 ^ (k + 1)) : len n = k + 1 := by
  have hp := pow_pos k
  have a := lt_len n
  have b := len_le (n := n) (by omega)
  have c := pow_lt_pow (Nat.lt_of_le_of_lt h0 a)
  have d := pow_lt_pow (Nat.lt_of_le_of_lt b h1)
  omega
theorem len_pos {n : Nat} (h : 0 < n) : 0 < len n := by
  unfold len
  rw [if_neg (by omega)]
  omega
theorem len_le_of_lt {n k : Nat} (h : n < 2 ^ k) : len n ≤ k := by
  rcases Nat.eq_zero_or_pos n with z | z
  · subst z; exact Nat.zero_le _
  · have b := len_le z
    have := pow_lt_pow (Nat.lt_of_le_of_lt b h)
    have := len_pos z
    omega
/-- the loop's test of length_of -/
theorem shift_pos (n k : Nat) : 0 < n / 2 ^ k ↔ k < len n := by
  constructor
  · intro h
    have : 2 ^ k ≤ n := by
      rcases Nat.lt_or_ge n (2 ^ k) with z | z
      · rw [Nat.div_eq_of_lt z] at h; omega
      · exact z
    exact pow_lt_pow (Nat.lt_of_le_of_lt this (lt_len n))
  · intro h
    have z : 0 < n := by
      rcases Nat.eq_zero_or_pos n with z | z
      · subst z; rw [len_zero] at h; omega
      · exact z
    exact Nat.div_pos (Nat.le_trans (pow_le_pow (by omega)) (len_le z)) (pow_pos k)
/-! ### the program's rounding -/
def goesUp (whole rest part : Nat) (neg : Bool) (mode : Nat) : Bool :=
  if mode = 0 then decide (part < 2 * rest) || (decide (2 * rest = part) && decide (whole % 2 = 1))
  else if mode = 1 then decide (0 < rest) && neg
  else decide (mode = 2) && (decide (0 < rest) && !neg)
def sizeOf (many : Nat) : Nat := if many < 1024 then many else (len many - 10) * 1024 + many / 2 ^ (len many - 11) - 1024
def pastIt (neg : Bool) (mode : Nat) : Bool := decide (mode = 0) || ((decide (mode = 1) && neg) || (decide (mode = 2) && !neg))
def beyond (neg : Bool) (mode : Nat) : Nat := Sv03.signed neg (if pastIt neg mode = true then 31744 else 31743)
def finish (neg : Bool) (mode many : Nat) : Nat := if 2047 * 2 ^ 29 < many then beyond neg mode else Sv03.signed neg (sizeOf many)
def up (whole rest part : Nat) (neg : Bool) (mode : Nat) : Nat := if goesUp whole rest part neg mode = true then 1 else 0
def rw (top bottom : Nat) (neg : Bool) (mode : Nat) : Nat := top / bottom + up (top / bottom) (top - top / bottom * bottom) bottom neg mode
def roundedP (top bottom : Nat) (neg : Bool) (mode : Nat) : Nat :=
  finish neg mode (rw top (bottom * 2 ^ (len (top / bottom) - 11)) neg mode * 2 ^ (len (top / bottom) - 11))
theorem up_true {w r p : Nat} {neg : Bool} {mode : Nat} (h : goesUp w r p neg mode = true) : up w r p neg mode = 1 := if_pos h
theorem up_false {w r p : Nat} {neg : Bool} {mode : Nat} (h : goesUp w r p neg mode = false) : up w r p neg mode = 0 := by
  unfold up
  rw [h]
  rfl
/-! ### units -/
/-- a magnitude by its exponent and its significand -/
def Form (E w : Nat) : Prop := w ≤ 2048 ∧ (E = 0 ∨ 1024 ≤ w)
theorem units_form {E w : Nat} (h : Form E w) : Sv03.units (E * 1024 + w) = w * 2 ^ E := by
  obtain ⟨h1, h2⟩ := h
  unfold Sv03.units
  rcases Nat.lt_or_ge w 1024 with c | c
  · have hE : E = 0 := by omega
    subst hE
    rw [if_pos (by omega)]
    simp
  · rw [if_neg (by omega)]
    rcases Nat.lt_or_ge w 2048 with d | d
    · have e1 : (E * 1024 + w) % 1024 = w - 1024 := by omega
      have e2 : (E * 1024 + w) / 1024 - 1 = E := by omega
      rw [e1, e2, show 1024 + (w - 1024) = w by omega]
    · have hw : w = 2048 := by omega
      subst hw
      have e1 : (E * 1024 + 2048) % 1024 = 0 := by omega
      have e2 : (E * 1024 + 2048) / 1024 - 1 = E + 1 := by omega
      rw [e1, e2, Nat.pow_succ]
      omega
theorem form_of (m : Nat) : ∃ E w, m = E * 1024 + w ∧ w < 2048 ∧ (E = 0 ∨ 1024 ≤ w) := by
  refine ⟨m / 1024 - 1, m - (m / 1024 - 1) * 1024, ?_, ?_, ?_⟩ <;> omega
theorem units_succ (m : Nat) : Sv03.units m < Sv03.units (m + 1) := by
  obtain ⟨E, w, rfl, h1, h2⟩ := form_of m
  rw [units_form ⟨by omega, h2⟩, Nat.add_assoc, units_form ⟨by omega, by omega⟩]
  exact Nat.mul_lt_mul_of_pos_right (by omega) (pow_pos E)
theorem units_mono {a b : Nat} (h : a ≤ b) : Sv03.units a ≤ Sv03.units b := by
  induction b with
  | zero => rw [show a = 0 by omega]; exact Nat.le_refl _
  | succ b ih =>
    rcases Nat.lt_or_ge a (b + 1) with c | c
    · exact Nat.le_trans (ih (by omega)) (Nat.le_of_lt (units_succ b))
    · rw [show a = b + 1 by omega]; exact Nat.le_refl _
theorem units_lt {a b : Nat} (h : a < b) : Sv03.units a < Sv03.units b := Nat.lt_of_lt_of_le (units_succ a) (units_mono h)
/-! ### the search -/
/-- the greatest magnitude not above -/
def Ok (cmp : Nat → Ordering) (m : Nat) : Prop := m ≤ 0x7C00 ∧ cmp (2 * Sv03.units m) ≠ .gt
theorem seek_finds (cmp : Nat → Ordering) : ∀ (b m : Nat), Ok cmp m → ¬ Ok cmp (m + 2 ^ b) → Ok cmp (Sv03.seek cmp b m) ∧ ¬ Ok cmp (Sv03.seek cmp b m + 1)
  | 0, m, h1, h2 => ⟨h1, h2⟩
  | b + 1, m, h1, h2 => by
    unfold Sv03.seek
    by_cases c : m + 2 ^ b ≤ 0x7C00 ∧ cmp (2 * Sv03.units (m + 2 ^ b)) ≠ .gt
    · rw [if_pos c]
      refine seek_finds cmp b _ c ?_
      rw [Nat.pow_succ] at h2
      rw [Nat.add_assoc, show 2 ^ b + 2 ^ b = 2 ^ b * 2 by omega]
      exact h2
    · rw [if_neg c]
      exact seek_finds cmp b m h1 c
def cmpOf (n d : Nat) (t : Nat) : Ordering := compare (t * d) (2 * n)
theorem cmpOf_le {n d u : Nat} : cmpOf n d (2 * u) ≠ .gt ↔ u * d ≤ n := by
  unfold cmpOf
  rw [Ne, Nat.compare_eq_gt, Nat.mul_assoc]
  omega
theorem ok_iff {n d m : Nat} : Ok (cmpOf n d) m ↔ m ≤ 0x7C00 ∧ Sv03.units m * d ≤ n := by
  unfold Ok
  rw [cmpOf_le]
theorem ok_down {n d a b : Nat} (h : a ≤ b) (o : Ok (cmpOf n d) b) : Ok (cmpOf n d) a := by
  rw [ok_iff] at o ⊢
  exact ⟨by omega, Nat.le_trans (Nat.mul_le_mul_right d (units_mono h)) o.2⟩
theorem seek_eq {n d m : Nat} (h1 : Ok (cmpOf n d) m) (h2 : ¬ Ok (cmpOf n d) (m + 1)) : Sv03.seek (cmpOf n d) 15 0 = m := by
  have z := seek_finds (cmpOf n d) 15 0 (ok_down (Nat.zero_le m) h1) (fun o => absurd (ok_iff.mp o).1 (by omega))
  generalize Sv03.seek (cmpOf n d) 15 0 = s at z
  rcases Nat.lt_trichotomy s m with c | c | c
  · exact absurd (ok_down (show s + 1 ≤ m by omega) h1) z.2
  · exact c
  · exact absurd (ok_down (show m + 1 ≤ s by omega) z.1) h2
/-! ### what the program's step and whole are -/
structure Parts (n d E w r : Nat) : Prop where
  eq : n = w * (d * 2 ^ E) + r
  lt : r < d * 2 ^ E
  w1 : w < 2048
  w2 : E = 0 ∨ 1024 ≤ w
theorem parts (n d : Nat) (hd : 0 < d) : Parts n d (len (n / d) - 11) (n / (d * 2 ^ (len (n / d) - 11))) (n - n / (d * 2 ^ (len (n / d) - 11)) * (d * 2 ^ (len (n / d) - 11))) := by
  have hp := pow_pos (len (n / d) - 11)
  have hm : 0 < d * 2 ^ (len (n / d) - 11) := Nat.mul_pos hd hp
  have e := Nat.div_add_mod n (d * 2 ^ (len (n / d) - 11))
  rw [Nat.mul_comm] at e
  have l := Nat.mod_lt n hm
  have hle : n / (d * 2 ^ (len (n / d) - 11)) * (d * 2 ^ (len (n / d) - 11)) ≤ n := Nat.div_mul_le_self _ _
  have hw : n / (d * 2 ^ (len (n / d) - 11)) = n / d / 2 ^ (len (n / d) - 11) := (Nat.div_div_eq_div_mul n d _).symm
  refine ⟨by omega, by omega, ?_, ?_⟩
  · rw [hw, Nat.div_lt_iff_lt_mul hp]
    have a := lt_len (n / d)
    refine Nat.lt_of_lt_of_le a ?_
    rw [show (2048 : Nat) = 2 ^ 11 by decide, ← Nat.pow_add]
    exact pow_le_pow (by omega)
  · rcases Nat.lt_or_ge (len (n / d)) 12 with c | c
    · left; omega
    · right
      rw [hw, Nat.le_div_iff_mul_le hp]
      have q : 0 < n / d := by
        rcases Nat.eq_zero_or_pos (n / d) with z | z
        · rw [z, len_zero] at c; omega
        · exact z
      refine Nat.le_trans ?_ (len_le q)
      rw [show (1024 : Nat) = 2 ^ 10 by decide, ← Nat.pow_add]
      exact pow_le_pow (by omega)
theorem sizeOf_form {E w : Nat} (h : Form E w) : sizeOf (w * 2 ^ E) = E * 1024 + w := by
  obtain ⟨h1, h2⟩ := h
  unfold sizeOf
  have hp := pow_pos E
  rcases Nat.lt_or_ge w 1024 with c | c
  · have hE : E = 0 := by omega
    subst hE
    rw [if_pos (by omega)]
    simp
  · have : 1024 ≤ w * 2 ^ E := Nat.le_trans c (Nat.le_mul_of_pos_right w hp)
    rw [if_neg (by omega)]
    rcases Nat.lt_or_ge w 2048 with d | d
    · have l : len (w * 2 ^ E) = E + 10 + 1 := len_unique (by
        rw [Nat.pow_add, Nat.mul_comm]
        exact Nat.mul_le_mul_right _ c) (by
        rw [show E + 10 + 1 = 11 + E by omega, Nat.pow_add]
        exact Nat.mul_lt_mul_of_pos_right d hp)
      rw [l, show E + 10 + 1 - 11 = E by omega, Nat.mul_div_cancel _ hp]
      omega
    · have hw : w = 2048 := by omega
      subst hw
      have e : 2048 * 2 ^ E = 1024 * 2 ^ (E + 1) := by rw [Nat.pow_succ]; omega
      have l : len (2048 * 2 ^ E) = E + 11 + 1 := len_unique (by
        rw [Nat.pow_add, Nat.mul_comm]
        exact Nat.mul_le_mul_right _ (by decide)) (by
        rw [show E + 11 + 1 = 12 + E by omega, Nat.pow_add]
        exact Nat.mul_lt_mul_of_pos_right (by decide) hp)
      rw [l, show E + 11 + 1 - 11 = E + 1 by omega, e, Nat.mul_div_cancel _ (pow_pos _)]
      omega
theorem over_form {E w : Nat} (h : Form E w) : 2047 * 2 ^ 29 < w * 2 ^ E ↔ 0x7C00 ≤ E * 1024 + w := by
  have e1 : 2047 * 2 ^ 29 = Sv03.units 0x7BFF := by decide
  rw [e1, ← units_form h]
  constructor
  · intro c
    rcases Nat.lt_or_ge (E * 1024 + w) 0x7C00 with z | z
    · exact absurd (units_mono (show E * 1024 + w ≤ 0x7BFF by omega)) (by omega)
    · exact z
  · intro c
    exact units_lt (by omega)
/-! ### the rounding is the specification's -/
theorem rounded_eq {n d : Nat} (hd : 0 < d) (neg : Bool) {mode : Nat} (hm : mode ≤ 3) : roundedP n d neg mode = Sv03.ofFraction mode neg n d := by
  have p := parts n d hd
  unfold roundedP rw
  generalize len (n / d) - 11 = E at p ⊢
  generalize n / (d * 2 ^ E) = w at p ⊢
  generalize n - w * (d * 2 ^ E) = r at p ⊢
  obtain ⟨eq, lt, w1, w2⟩ := p
  have hp := pow_pos E
  have hS : 0 < d * 2 ^ E := Nat.mul_pos hd hp
  have fw : Form E w := ⟨by omega, w2⟩
  have fw1 : Form E (w + 1) := ⟨by omega, by omega⟩
  have uw : Sv03.units (E * 1024 + w) = w * 2 ^ E := units_form fw
  have uw1 : Sv03.units (E * 1024 + w + 1) = (w + 1) * 2 ^ E := by
    rw [Nat.add_assoc]; exact units_form fw1
  have lo : Sv03.units (E * 1024 + w) * d ≤ n := by
    rw [uw, Nat.mul_assoc, Nat.mul_comm (2 ^ E) d]; omega
  have hi : n < Sv03.units (E * 1024 + w + 1) * d := by
    rw [uw1, Nat.mul_assoc, Nat.mul_comm (2 ^ E) d, Nat.succ_mul]; omega
  show _ = Sv03.rounded mode neg (cmpOf n d)
  unfold Sv03.rounded
  rcases Nat.lt_or_ge (E * 1024 + w) 0x7C00 with c | c
  · -- below infinity
    have sk : Sv03.seek (cmpOf n d) 15 0 = E * 1024 + w := seek_eq (ok_iff.mpr ⟨by omega, lo⟩) (fun o => absurd (ok_iff.mp o).2 (by omega))
    rw [sk]
    dsimp only
    have nov : ¬ 2047 * 2 ^ 29 < w * 2 ^ E := fun z => absurd ((over_form fw).mp z) (by omega)
    have up_over : 2047 * 2 ^ 29 < (w + 1) * 2 ^ E ↔ E * 1024 + w = 0x7BFF := by
      rw [over_form fw1]; omega
    have s0 : sizeOf (w * 2 ^ E) = E * 1024 + w := sizeOf_form fw
    have s1 : sizeOf ((w + 1) * 2 ^ E) = E * 1024 + w + 1 := by
      rw [Nat.add_assoc]; exact sizeOf_form fw1
    -- what a turn up gives
    have UP : pastIt neg mode = true → finish neg mode ((w + 1) * 2 ^ E) = Sv03.signed neg (E * 1024 + w + 1) := by
      intro hb
      unfold finish
      by_cases z : E * 1024 + w = 0x7BFF
      · rw [if_pos (up_over.mpr z), z]
        unfold beyond
        rw [if_pos hb]
      · rw [if_neg (fun y => z (up_over.mp y)), s1]
    have DN : finish neg mode (w * 2 ^ E) = Sv03.signed neg (E * 1024 + w) := by
      unfold finish
      rw [if_neg nov, s0]
    have ex : cmpOf n d (2 * Sv03.units (E * 1024 + w)) = .eq ↔ r = 0 := by
      unfold cmpOf
      rw [Nat.compare_eq_eq, uw, Nat.mul_assoc, Nat.mul_assoc, Nat.mul_comm (2 ^ E) d]; omega
    by_cases hr : r = 0
    · rw [if_pos ⟨ex.mpr hr, c⟩]
      have g : goesUp w r (d * 2 ^ E) neg mode = false := by
        unfold goesUp
        subst hr
        have a1 : ¬ d * 2 ^ E < 2 * 0 := by omega
        have a2 : ¬ 2 * 0 = d * 2 ^ E := by omega
        simp [a1, a2]
      rw [up_false g, Nat.add_zero]
      exact DN
    · rw [if_neg (fun z => hr (ex.mp z.1)), if_neg (by omega)]
      have rp : 0 < r := by omega
      have cm : cmpOf n d (Sv03.units (E * 1024 + w) + Sv03.units (E * 1024 + w + 1)) = compare (d * 2 ^ E) (2 * r) := by
        have a : (w * 2 ^ E + (w + 1) * 2 ^ E) * d = 2 * (w * (d * 2 ^ E)) + d * 2 ^ E := by
          rw [← Nat.add_mul, Nat.mul_assoc, Nat.mul_comm (2 ^ E) d, show w + (w + 1) = 2 * w + 1 by omega, Nat.add_mul, Nat.mul_assoc, Nat.one_mul]
        unfold cmpOf
        rw [uw, uw1, a, eq]
        generalize w * (d * 2 ^ E) = x
        generalize d * 2 ^ E = y
        rcases Nat.lt_trichotomy y (2 * r) with z | z | z
        · rw [Nat.compare_eq_lt.mpr z, Nat.compare_eq_lt.mpr (by omega)]
        · rw [Nat.compare_eq_eq.mpr z, Nat.compare_eq_eq.mpr (by omega)]
        · rw [Nat.compare_eq_gt.mpr z, Nat.compare_eq_gt.mpr (by omega)]
      rw [cm]
      match mode, hm with
      | 0, _ =>
        rw [if_pos rfl]
        have hb : pastIt neg 0 = true := rfl
        rcases Nat.lt_trichotomy (d * 2 ^ E) (2 * r) with z | z | z
        · rw [Nat.compare_eq_lt.mpr z]
          have g : goesUp w r (d * 2 ^ E) neg 0 = true := by unfold goesUp; simp [z]
          rw [up_true g]
          exact UP hb
        · rw [Nat.compare_eq_eq.mpr z]
          by_cases o : w % 2 = 1
          · have g : goesUp w r (d * 2 ^ E) neg 0 = true := by unfold goesUp; simp [z, o]
            rw [up_true g]
            dsimp only
            rw [if_neg (by omega)]
            exact UP hb
          · have g : goesUp w r (d * 2 ^ E) neg 0 = false := by unfold goesUp; simp [z, o]
            rw [up_false g, Nat.add_zero]
            dsimp only
            rw [if_pos (by omega)]
            exact DN
        · rw [Nat.compare_eq_gt.mpr z]
          have g : goesUp w r (d * 2 ^ E) neg 0 = false := by
            unfold goesUp
            have a1 : ¬ d * 2 ^ E < 2 * r := by omega
            have a2 : ¬ 2 * r = d * 2 ^ E := by omega
            simp [a1, a2]
          rw [up_false g, Nat.add_zero]
          exact DN
      | 1, _ =>
        rw [if_neg (by decide)]
        have g : goesUp w r (d * 2 ^ E) neg 1 = neg := by unfold goesUp; simp [rp]
        cases neg with
        | true => rw [up_true g]; exact UP rfl
        | false => rw [up_false g]; exact DN
      | 2, _ =>
        rw [if_neg (by decide)]
        have g : goesUp w r (d * 2 ^ E) neg 2 = !neg := by unfold goesUp; simp [rp]
        cases neg with
        | true => rw [up_false g]; exact DN
        | false => rw [up_true g]; exact UP rfl
      | 3, _ =>
        rw [if_neg (by decide)]
        have g : goesUp w r (d * 2 ^ E) neg 3 = false := by unfold goesUp; simp
        rw [up_false g]
        cases neg <;> exact DN
  · -- at infinity or past it
    have sk : Sv03.seek (cmpOf n d) 15 0 = 0x7C00 := seek_eq (ok_iff.mpr ⟨Nat.le_refl _, Nat.le_trans (Nat.mul_le_mul_right d (units_mono c)) lo⟩) (fun o => absurd (ok_iff.mp o).1 (by omega))
    rw [sk]
    dsimp only
    rw [if_neg (fun z => absurd z.2 (by omega)), if_pos rfl]
    have ov : ∀ k : Nat, 2047 * 2 ^ 29 < (w + k) * 2 ^ E := fun k => Nat.lt_of_lt_of_le ((over_form fw).mpr c) (Nat.mul_le_mul_right _ (by omega))
    unfold finish
    rw [if_pos (ov _)]
    unfold beyond pastIt
    match mode, hm with
    | 0, _ => cases neg <;> rfl
    | 1, _ => cases neg <;> rfl
    | 2, _ => cases neg <;> rfl
    | 3, _ => cases neg <;> rfl
end Hr

namespace Hr
/-! ### rows -/
theorem each_len (f : Nat → Nat) : (Sv03.each f).length = 32 := by simp [Sv03.each]
theorem each_get {f : Nat → Nat} {i : Nat} (h : i < 32) : (Sv03.each f)[i]? = some (f i) := by
  simp [Sv03.each, h]
theorem each_congr {f g : Nat → Nat} (h : ∀ i, i < 32 → f i = g i) : Sv03.each f = Sv03.each g := by
  unfold Sv03.each
  exact List.map_congr_left fun i hi => h i (List.mem_range.mp hi)
/-- the row behind i lanes -/
def part (k : Nat) (l : List Nat) (g : Nat → Nat) (i : Nat) : List Nat := Sv03.each fun j => if j < i ∧ k.testBit j = true then g j else Sv03.at_ l j
theorem part_zero (k : Nat) (l : List Nat) (g : Nat → Nat) : part k l g 0 = Sv03.each (Sv03.at_ l) := each_congr fun i _ => by rw [if_neg (by omega)]
theorem part_full (k : Nat) (l : List Nat) (g : Nat → Nat) : part k l g 32 = Sv03.merged k l g := by
  unfold part Sv03.merged
  refine each_congr fun i hi => ?_
  by_cases c : k.testBit i = true
  · rw [if_pos ⟨hi, c⟩, if_pos c]
  · rw [if_neg (fun z => c z.2), if_neg c]
theorem part_get {k : Nat} {l : List Nat} {g : Nat → Nat} {i : Nat} (h : i < 32) : (part k l g i)[i]? = some (Sv03.at_ l i) := by
  unfold part
  rw [each_get h, if_neg (by omega)]
theorem part_out {k : Nat} {l : List Nat} {g : Nat → Nat} {i : Nat} (h : ¬ k.testBit i = true) : part k l g (i + 1) = part k l g i := by
  unfold part
  refine each_congr fun j hj => ?_
  by_cases e : j = i
  · subst e
    rw [if_neg (fun z => h z.2), if_neg (fun z => h z.2)]
  · by_cases c : j < i ∧ k.testBit j = true
    · rw [if_pos c, if_pos ⟨by omega, c.2⟩]
    · rw [if_neg c, if_neg (fun z => c ⟨by omega, z.2⟩)]
theorem part_in {k : Nat} {l : List Nat} {g : Nat → Nat} {i : Nat} (hi : i < 32) (h : k.testBit i = true) : part k l g (i + 1) = (part k l g i).set i (g i) := by
  apply List.ext_getElem?
  intro j
  rw [List.getElem?_set]
  unfold part
  rw [each_len]
  rcases Nat.lt_or_ge j 32 with c | c
  · rw [each_get c, each_get c]
    by_cases e : i = j
    · subst e
      rw [if_pos rfl, if_pos c, if_pos ⟨by omega, h⟩]
    · rw [if_neg e]
      congr 1
      by_cases d : j < i ∧ k.testBit j = true
      · rw [if_pos d, if_pos ⟨by omega, d.2⟩]
      · rw [if_neg d, if_neg (fun z => d ⟨by omega, z.2⟩)]
  · rw [List.getElem?_eq_none (by rw [each_len]; exact c), List.getElem?_eq_none (by rw [each_len]; exact c), if_neg (by omega)]
/-- a row, padded -/
theorem padded {l : List Nat} (h : l.length ≤ 32) : l ++ List.replicate (32 - l.length) 0 = Sv03.each (Sv03.at_ l) := by
  apply List.ext_getElem?
  intro j
  rcases Nat.lt_or_ge j 32 with c | c
  · rw [each_get c]
    unfold Sv03.at_
    rcases Nat.lt_or_ge j l.length with d | d
    · rw [List.getElem?_append_left d, List.getD_eq_getElem?_getD, List.getElem?_eq_getElem d]
      rfl
    · rw [List.getElem?_append_right d, List.getD_eq_getElem?_getD, List.getElem?_eq_none d, List.getElem?_replicate, if_pos (by omega)]
      rfl
  · rw [List.getElem?_eq_none (by simp; omega), List.getElem?_eq_none (by rw [each_len]; exact c)]
theorem at_lt {l : List Nat} {b : Nat} (hb : 0 < b) (h : ∀ n ∈ l, n < b) (i : Nat) : Sv03.at_ l i < b := by
  unfold Sv03.at_
  rw [List.getD_eq_getElem?_getD]
  cases e : l[i]? with
  | none => exact hb
  | some x => exact h x (List.mem_of_getElem? e)
theorem cast_nat (l : List Nat) : (l.map (fun n : Nat => (n : Int))).map Int.toNat = l := by
  rw [List.map_map]
  exact (List.map_congr_left fun n _ => Int.toNat_natCast n).trans (List.map_id l)
/-! ### small facts -/
theorem up_toNat (w r p : Nat) (neg : Bool) (mode : Nat) : up w r p neg mode = (goesUp w r p neg mode).toNat := by
  unfold up
  cases goesUp w r p neg mode <;> rfl
theorem signed_is (s : Nat) (b : Bool) : s + 32768 * b.toNat = Sv03.signed b s := by
  cases b <;> simp [Sv03.signed] <;> omega
theorem sizeOf_is {m : Nat} (h : ¬ m < 1024) : (len m - 11 + 1) * 1024 + m / 2 ^ (len m - 11 + 1 - 1) - 1024 = sizeOf m := by
  have hl : 11 ≤ len m := by
    have a := lt_len m
    rcases Nat.lt_or_ge (len m) 11 with c | c
    · have : 2 ^ len m ≤ 2 ^ 10 := pow_le_pow (by omega)
      omega
    · exact c
  unfold sizeOf
  rw [if_neg h, show len m - 11 + 1 = len m - 10 by omega, show len m - 10 - 1 = len m - 11 by omega]
theorem len_eleven {m : Nat} (h : ¬ m < 1024) : 11 ≤ len m := by
  have a := lt_len m
  rcases Nat.lt_or_ge (len m) 11 with c | c
  · have : 2 ^ len m ≤ 2 ^ 10 := pow_le_pow (by omega)
    omega
  · exact c
theorem minus_is {x : Nat} (h : x < 65536) : Sv03.minus x = decide (32768 ≤ x) := by
  unfold Sv03.minus
  rw [Nat.mod_eq_of_lt h]
theorem isInf_is (x : Nat) : Sv03.isInf x = decide (Sv03.mag x = 31744) := by
  unfold Sv03.isInf
  rw [Bool.eq_iff_iff]
  simp
theorem isZero_is (x : Nat) : Sv03.isZero x = decide (Sv03.mag x = 0) := by
  unfold Sv03.isZero
  rw [Bool.eq_iff_iff]
  simp
theorem units_is {m : Nat} (h : ¬ m < 1024) : (1024 + m % 1024) * 2 ^ (m / 1024 - 1) = Sv03.units m := by
  unfold Sv03.units
  rw [if_neg (by omega)]
theorem units_small {m : Nat} (h : m < 1024) : Sv03.units m = m := by
  unfold Sv03.units
  rw [if_pos (by omega)]
theorem mag_lt (x : Nat) : Sv03.mag x < 32768 := Nat.mod_lt _ (by decide)
theorem units_bound {m : Nat} (h : m < 32768) : Sv03.units m < 2 ^ 42 := by
  have : Sv03.units m ≤ Sv03.units 32767 := units_mono (by omega)
  have e : Sv03.units 32767 = 2047 * 2 ^ 30 := by decide
  omega
theorem testBit_is (k i : Nat) : decide (k / 2 ^ i &&& 1 = 1) = k.testBit i := by
  rw [Nat.and_one_is_mod, Nat.testBit_eq_decide_div_mod_eq]
theorem isMode_is (m : Int) : (if 0 ≤ m then decide (m < 4) else false) = Sv03.isMode m := by
  unfold Sv03.isMode
  by_cases h : 0 ≤ m
  · rw [if_pos h, decide_eq_true h, Bool.true_and]
    exact decide_eq_decide.mpr (by omega)
  · rw [if_neg h, decide_eq_false h, Bool.false_and]
theorem isMode_nat {m : Int} (h : Sv03.isMode m = true) : ∃ n : Nat, m = (n : Int) ∧ n ≤ 3 := by
  unfold Sv03.isMode at h
  simp at h
  exact ⟨m.toNat, by omega, by omega⟩
theorem fraction_zero {d mode : Nat} (hd : 0 < d) (hm : mode ≤ 3) (s : Bool) : Sv03.ofFraction mode s 0 d = Sv03.signed s 0 := by
  rw [← rounded_eq hd s hm]
  unfold roundedP rw
  simp only [Nat.zero_div, len_zero, Nat.zero_sub, Nat.pow_zero, Nat.mul_one, Nat.zero_add, Nat.zero_mul]
  have g : goesUp 0 0 d s mode = false := by
    unfold goesUp
    have a2 : ¬ 0 = d := by omega
    simp [a2]
  rw [up_false g]
  rfl
theorem int16_is {x : Nat} (h : x < 65536) : (x : Int) - ((65536 * (decide (32768 ≤ x)).toNat : Nat) : Int) = Sv03.int16 x := by
  unfold Sv03.int16
  rw [Nat.mod_eq_of_lt h]
  by_cases c : 32768 ≤ x
  · rw [decide_eq_true c, if_neg (by omega)]
    rfl
  · rw [decide_eq_false c, if_pos (by omega)]
    simp
theorem int16_bound {x : Nat} (h : x < 65536) : (Sv03.int16 x).natAbs < 2 ^ 16 := by
  unfold Sv03.int16
  rw [Nat.mod_eq_of_lt h]
  split <;> omega
theorem fromInt_is {x mode : Nat} (hm : mode ≤ 3) : Sv03.ofFraction mode (decide (Sv03.int16 x < 0)) ((Sv03.int16 x).natAbs * 2 ^ 24) 1 = Sv03.fromInt mode x := by
  unfold Sv03.fromInt Sv03.ofInt
  generalize Sv03.int16 x = i
  by_cases c : i = 0
  · subst c
    rw [if_pos (by decide)]
    exact fraction_zero (by decide) hm _
  · rw [if_neg (by omega)]
    have e1 : decide (i * ((2 ^ 24 : Nat) : Int) < 0) = decide (i < 0) := decide_eq_decide.mpr (by omega)
    have e2 : (i * ((2 ^ 24 : Nat) : Int)).natAbs = i.natAbs * 2 ^ 24 := by
      rw [Int.natAbs_mul]; rfl
    rw [e1, e2]
end Hr

namespace Hr
/-! ### whole numbers -/
theorem whole_is (u : Nat) (neg : Bool) {mode : Nat} (hm : mode ≤ 3) : Sv03.whole mode (if neg = true then -(u : Int) else (u : Int)) (2 ^ 24) = if neg = true then -((rw u (2 ^ 24) neg mode : Nat) : Int) else ((rw u (2 ^ 24) neg mode : Nat) : Int) := by
  have e24 : (2 : Nat) ^ 24 = 16777216 := by decide
  unfold Sv03.whole rw up goesUp
  rw [e24]
  have hw : u / 16777216 * 16777216 ≤ u := Nat.div_mul_le_self _ _
  match mode, hm with
  | 0, _ =>
    cases neg
    · simp only [Bool.false_eq_true, if_false, if_true]
      by_cases h0 : u % 16777216 = 0
      · rw [if_pos (by omega)]
        rw [if_neg (by simp; omega)]
        omega
      · rw [if_neg (by omega)]
        by_cases h1 : 16777216 < 2 * (u - u / 16777216 * 16777216)
        · rw [if_neg (by omega), if_pos (by simp [h1])]
          omega
        · by_cases h2 : 2 * (u - u / 16777216 * 16777216) = 16777216 ∧ u / 16777216 % 2 = 1
          · rw [if_neg (by omega), if_pos (by simp [h2])]
            omega
          · rw [if_pos (by omega), if_neg (by simp; omega)]
            omega
    · simp only [if_true]
      by_cases h0 : u % 16777216 = 0
      · rw [if_pos (by omega)]
        rw [if_neg (by simp; omega)]
        omega
      · rw [if_neg (by omega)]
        by_cases h1 : 16777216 < 2 * (u - u / 16777216 * 16777216)
        · rw [if_pos (by omega), if_pos (by simp [h1])]
          omega
        · by_cases h2 : 2 * (u - u / 16777216 * 16777216) = 16777216 ∧ u / 16777216 % 2 = 1
          · rw [if_pos (by omega), if_pos (by simp [h2])]
            omega
          · rw [if_neg (by omega), if_neg (by simp; omega)]
            omega
  | 1, _ =>
    cases neg
    · simp only [Bool.false_eq_true, if_false]
      by_cases h0 : u % 16777216 = 0
      · rw [if_pos (by omega), if_neg (by simp)]; omega
      · rw [if_neg (by omega), if_neg (by simp)]; omega
    · simp only [if_true]
      by_cases h0 : u % 16777216 = 0
      · rw [if_pos (by omega), if_neg (by simp; omega)]
        omega
      · rw [if_neg (by omega), if_pos (by simp; omega)]
        omega
  | 2, _ =>
    cases neg
    · simp only [Bool.false_eq_true, if_false]
      by_cases h0 : u % 16777216 = 0
      · rw [if_pos (by omega), if_neg (by simp; omega)]
        omega
      · rw [if_neg (by omega), if_pos (by simp; omega)]
        omega
    · simp only [if_true]
      by_cases h0 : u % 16777216 = 0
      · rw [if_pos (by omega), if_neg (by simp)]
        omega
      · rw [if_neg (by omega), if_neg (by simp)]
        omega
  | 3, _ =>
    cases neg
    · simp only [Bool.false_eq_true, if_false]
      by_cases h0 : u % 16777216 = 0
      · rw [if_pos (by omega), if_neg (by simp)]
        omega
      · rw [if_neg (by omega), if_neg (by omega), if_neg (by simp)]
        omega
    · simp only [if_true]
      by_cases h0 : u % 16777216 = 0
      · rw [if_pos (by omega), if_neg (by simp)]
        omega
      · rw [if_neg (by omega), if_pos (by omega), if_neg (by simp)]
        omega
/-- what int_of makes of the whole -/
def intOf (r : Nat) (neg : Bool) : Nat := if 32767 + neg.toNat < r then 0x8000 else ((if neg = true then -(r : Int) else (r : Int)) % 65536).toNat
theorem toInt_is {x mode : Nat} (hm : mode ≤ 3) (h : (Sv03.isNan x || Sv03.isInf x) = false) : Sv03.toInt mode x = intOf (rw (Sv03.units (Sv03.mag x)) (2 ^ 24) (Sv03.minus x) mode) (Sv03.minus x) := by
  unfold Sv03.toInt intOf Sv03.value
  rw [h, if_neg Bool.false_ne_true, whole_is _ _ hm]
  dsimp only
  generalize rw (Sv03.units (Sv03.mag x)) (2 ^ 24) (Sv03.minus x) mode = r
  cases Sv03.minus x
  · simp only [Bool.false_eq_true, if_false, Bool.toNat_false]
    by_cases c : 32767 + 0 < r
    · rw [if_pos c, if_neg (by omega)]
    · rw [if_neg c, if_pos (by omega)]
  · simp only [if_true, Bool.toNat_true]
    by_cases c : 32767 + 1 < r
    · rw [if_pos c, if_neg (by omega)]
    · rw [if_neg c, if_pos (by omega)]
/-! ### singles -/
def singleSize (u : Nat) : Nat := if u = 0 then 0 else (u.log2 + 103) * 2 ^ 23 + (if u.log2 ≤ 23 then (u - 2 ^ u.log2) * 2 ^ (23 - u.log2) else (u - 2 ^ u.log2) / 2 ^ (u.log2 - 23))
theorem shifted {u m : Nat} (h : 2 ^ m ≤ u) : u * 2 ^ 23 / 2 ^ m = 2 ^ 23 + (if m ≤ 23 then (u - 2 ^ m) * 2 ^ (23 - m) else (u - 2 ^ m) / 2 ^ (m - 23)) := by
  have hp := pow_pos m
  obtain ⟨v, rfl⟩ := Nat.exists_eq_add_of_le h
  rw [Nat.add_sub_cancel_left]
  by_cases c : m ≤ 23
  · rw [if_pos c]
    have e : (2 : Nat) ^ 23 = 2 ^ m * 2 ^ (23 - m) := by rw [← Nat.pow_add]; congr 1; omega
    rw [e, show (2 ^ m + v) * (2 ^ m * 2 ^ (23 - m)) = 2 ^ m * (2 ^ m * 2 ^ (23 - m) + v * 2 ^ (23 - m)) by
      rw [← Nat.add_mul, ← Nat.mul_assoc, ← Nat.mul_assoc, Nat.mul_comm (2 ^ m + v)], Nat.mul_div_cancel_left _ hp]
  · rw [if_neg c]
    have e : (2 : Nat) ^ m = 2 ^ 23 * 2 ^ (m - 23) := by rw [← Nat.pow_add]; congr 1; omega
    rw [e, Nat.mul_comm _ (2 ^ 23), Nat.mul_div_mul_left _ _ (pow_pos 23), Nat.add_comm, Nat.add_mul_div_right _ _ (pow_pos _), Nat.add_comm]
theorem singleSize_is {u : Nat} (h : u ≠ 0) : ((len u - 1 : Nat) : Int) - 24 + 127 = (((u.log2 + 103 : Nat)) : Int) ∧ u * 2 ^ 23 / 2 ^ (len u - 1) = 2 ^ 23 + (singleSize u - (u.log2 + 103) * 2 ^ 23) ∧ (u.log2 + 103) * 2 ^ 23 ≤ singleSize u := by
  have el : len u - 1 = u.log2 := by
    unfold len
    rw [if_neg h]
    omega
  rw [el]
  have s : singleSize u = (u.log2 + 103) * 2 ^ 23 + (if u.log2 ≤ 23 then (u - 2 ^ u.log2) * 2 ^ (23 - u.log2) else (u - 2 ^ u.log2) / 2 ^ (u.log2 - 23)) := if_neg h
  refine ⟨by omega, ?_, by omega⟩
  rw [shifted (Nat.log2_self_le h), s, Nat.add_sub_cancel_left]
theorem singleSize_end {u : Nat} (h : u ≠ 0) : ((((len u - 1 : Nat) : Int) - 24 + 127) * 8388608 + ((u * 2 ^ 23 / 2 ^ (len u - 1) : Nat) : Int)) - 8388608 = ((singleSize u : Nat) : Int) := by
  obtain ⟨a, b, c⟩ := singleSize_is h
  rw [a, b]
  have e : (2 : Nat) ^ 23 = 8388608 := by decide
  rw [e] at c ⊢
  omega
theorem single_is {x : Nat} (h : Sv03.isNan x = false) (h2 : Sv03.isInf x = false) : 2147483648 * (Sv03.minus x).toNat + singleSize (Sv03.units (Sv03.mag x)) = Sv03.single x := by
  have e31 : (2 : Nat) ^ 31 = 2147483648 := by decide
  unfold Sv03.single singleSize
  simp only [h, h2, Bool.false_eq_true, if_false]
  rw [e31]
  generalize Sv03.units (Sv03.mag x) = u
  by_cases c : u = 0
  · rw [if_pos c, if_pos c]
    cases Sv03.minus x <;> simp
  · rw [if_neg c, if_neg c]
    cases Sv03.minus x <;> simp <;> omega
theorem single_inf {x : Nat} (h : Sv03.isNan x = false) (h2 : Sv03.isInf x = true) : 2147483648 * (Sv03.minus x).toNat + 2139095040 = Sv03.single x := by
  unfold Sv03.single
  simp only [h, h2, Bool.false_eq_true, if_false, if_true]
  cases Sv03.minus x <;> rfl
theorem single_nan {x : Nat} (h : Sv03.isNan x = true) : 2143289344 = Sv03.single x := by
  unfold Sv03.single
  simp only [h, if_true]
/-! ### halves of singles -/
theorem half_nan {y mode : Nat} (h : 2139095040 < y % 2147483648) : Sv03.half mode y = 32256 := by
  unfold Sv03.half
  have e31 : (2 : Nat) ^ 31 = 2147483648 := by decide
  rw [e31]
  dsimp only
  rw [if_pos h]
  rfl
theorem neg_is {y : Nat} (hy : y < 4294967296) : decide (2 ^ 31 ≤ y % 2 ^ 32) = decide (2147483648 ≤ y) := by
  have e31 : (2 : Nat) ^ 31 = 2147483648 := by decide
  have e32 : (2 : Nat) ^ 32 = 4294967296 := by decide
  rw [e31, e32, Nat.mod_eq_of_lt hy]
theorem half_inf {y mode : Nat} (hy : y < 4294967296) (h : y % 2147483648 = 2139095040) : Sv03.half mode y = Sv03.signed (decide (2147483648 ≤ y)) 31744 := by
  unfold Sv03.half
  rw [neg_is hy]
  have e31 : (2 : Nat) ^ 31 = 2147483648 := by decide
  rw [e31]
  dsimp only
  rw [if_neg (by omega), if_pos h]
theorem half_low {y mode : Nat} (hm : mode ≤ 3) (hy : y < 4294967296) (h : ¬ 2139095040 < y % 2147483648) (h2 : ¬ y % 2147483648 = 2139095040) (h3 : y % 2147483648 / 8388608 = 0) :
    Sv03.ofFraction mode (decide (2147483648 ≤ y)) (y % 2147483648 % 8388608) (2 ^ 125) = Sv03.half mode y := by
  unfold Sv03.half
  rw [neg_is hy]
  have e31 : (2 : Nat) ^ 31 = 2147483648 := by decide
  have e23 : (2 : Nat) ^ 23 = 8388608 := by decide
  rw [e31, e23]
  dsimp only
  rw [if_neg h, if_neg h2, if_pos h3]
  by_cases c : y % 2147483648 = 0
  · rw [if_pos c, c]
    exact fraction_zero (pow_pos _) hm _
  · rw [if_neg c]
    congr 1
    omega
theorem half_high {y mode : Nat} (hy : y < 4294967296) (h : ¬ 2139095040 < y % 2147483648) (h2 : ¬ y % 2147483648 = 2139095040) (h3 : ¬ y % 2147483648 / 8388608 = 0) :
    Sv03.ofFraction mode (decide (2147483648 ≤ y)) ((8388608 + y % 2147483648 % 8388608) * 2 ^ (y % 2147483648 / 8388608 - 1)) (2 ^ 125) = Sv03.half mode y := by
  unfold Sv03.half
  rw [neg_is hy]
  have e31 : (2 : Nat) ^ 31 = 2147483648 := by decide
  have e23 : (2 : Nat) ^ 23 = 8388608 := by decide
  rw [e31, e23]
  dsimp only
  rw [if_neg h, if_neg h2, if_neg (by omega), if_neg h3]
/-! ### masks of lanes -/
def maskVal (bs : List Bool) : Nat := (bs.zipIdx.map fun p => p.1.toNat * 2 ^ p.2).sum
theorem mask_fold (g : Nat → Bool) : ∀ (l : List Nat) (acc : Nat), (l.filter g).foldl (fun n i => n + 2 ^ i) acc = acc + (l.map fun i => (g i).toNat * 2 ^ i).sum
  | [], acc => rfl
  | x :: r, acc => by
    cases h : g x
    · rw [List.filter_cons_of_neg (by simp [h]), mask_fold g r acc, List.map_cons, List.sum_cons, h]
      simp
    · rw [List.filter_cons_of_pos h, List.foldl_cons, mask_fold g r, List.map_cons, List.sum_cons, h]
      simp
      omega
theorem maskOf_is (k : Nat) (f : Nat → Bool) : maskVal ((List.range 32).map fun i => k.testBit i && f i) = Sv03.maskOf k f := by
  unfold Sv03.maskOf
  rw [mask_fold, Nat.zero_add]
  unfold maskVal
  congr 1
theorem maskVal_len (bs : List Bool) : (bs.zipIdx.map fun p => p.1.toNat * 2 ^ p.2).length = bs.length := by simp
theorem maskVal_get {bs : List Bool} {i : Nat} {b : Bool} (h : bs[i]? = some b) : (bs.zipIdx.map fun p => p.1.toNat * 2 ^ p.2)[i]? = some (b.toNat * 2 ^ i) := by
  rw [List.getElem?_map, List.getElem?_zipIdx, h]
  simp
theorem toNat_dec2 (p : Prop) [Decidable p] : (decide p).toNat = if p then 1 else 0 := by
  by_cases h : p <;> simp [h]
/-! ### classes -/
theorem class_nan {x : Nat} (h : Sv03.isNan x = true) : (if Sv03.mag x / 512 % 2 = 0 then 128 else 1) = Sv03.classOf x := by
  have hz : Sv03.isZero x = false := by
    unfold Sv03.isNan at h
    unfold Sv03.isZero
    have := of_decide_eq_true h
    simp
    omega
  have hi : Sv03.isInf x = false := by
    unfold Sv03.isNan at h
    unfold Sv03.isInf
    have := of_decide_eq_true h
    simp
    omega
  have hm : 0x7C00 < Sv03.mag x := of_decide_eq_true h
  unfold Sv03.classOf
  simp only [h, hz, hi, true_and, Bool.false_eq_true, false_and, if_false]
  rw [if_neg (show ¬ (0 < Sv03.mag x ∧ Sv03.mag x < 1024) by omega), if_neg (show ¬ (Sv03.minus x = true ∧ 0 < Sv03.mag x ∧ Sv03.mag x < 0x7C00) by omega)]
  unfold Sv03.mag
  by_cases c : x % 1024 ≥ 512
  · rw [if_neg (by omega), if_pos c, if_neg (by omega)]
  · rw [if_pos (by omega), if_neg c, if_pos (by omega)]
theorem class_is {x : Nat} (h : Sv03.isNan x = false) : 64 * (Sv03.minus x && (decide (0 < Sv03.mag x) && decide (Sv03.mag x < 31744))).toNat + 32 * (decide (0 < Sv03.mag x) && decide (Sv03.mag x < 1024)).toNat +
    (if Sv03.mag x = 0 then (if Sv03.minus x = true then 4 else 2) else 0) + (if Sv03.mag x = 31744 then (if Sv03.minus x = true then 16 else 8) else 0) = Sv03.classOf x := by
  unfold Sv03.classOf
  simp only [h, isInf_is, isZero_is, Bool.false_eq_true, false_and, if_false, decide_eq_true_eq]
  generalize Sv03.mag x = m
  cases Sv03.minus x
  · simp only [Bool.false_and, Bool.toNat_false, Bool.false_eq_true, if_false, and_true, false_and, and_false]
    rw [← Bool.decide_and, toNat_dec2]
    repeat' split
    all_goals omega
  · simp only [Bool.true_and, if_true, and_true, true_and, Bool.true_eq_false, and_false, if_false]
    rw [← Bool.decide_and, ← Bool.decide_and, toNat_dec2, toNat_dec2]
    repeat' split
    all_goals omega
/-! ### order -/
theorem same_is {x y : Nat} (hx : x < 65536) (hy : y < 65536) (h1 : Sv03.isNan x = false) (h2 : Sv03.isNan y = false) : (decide (x = y) || (Sv03.isZero x && Sv03.isZero y)) = Sv03.same x y := by
  unfold Sv03.same
  rw [h1, h2, minus_is hx, minus_is hy, isZero_is, isZero_is]
  unfold Sv03.mag
  rw [Bool.eq_iff_iff]
  simp only [Bool.not_false, Bool.true_and, Bool.or_eq_true, Bool.and_eq_true, decide_eq_true_eq, beq_iff_eq, decide_eq_decide]
  omega
end Hr

namespace Hr
/-! ### order -/
def place (x : Nat) : List Int := if Sv03.minus x = true then [-(Sv03.mag x : Int), 0] else [(Sv03.mag x : Int), 1]
theorem holds_is {p x y : Nat} (v : Bool) (hp : p ≤ 7) (hv : ([Sv03.same x y, Sv03.less x y, Sv03.less x y || Sv03.same x y, Sv03.isNan x || Sv03.isNan y] : List Bool)[p % 4]? = some v) : (v != decide (3 < p)) = Sv03.holds p x y := by
  unfold Sv03.holds
  match p, hp with
  | 0, _ => cases hv; simp
  | 1, _ => cases hv; simp
  | 2, _ => cases hv; simp [Bool.or_comm]
  | 3, _ => cases hv; simp
  | 4, _ => cases hv; simp
  | 5, _ => cases hv; simp
  | 6, _ => cases hv; simp [Bool.or_comm]
  | 7, _ => cases hv; simp
theorem less_nan {x y : Nat} (h : (Sv03.isNan x || (Sv03.isNan y || Sv03.same x y)) = true) : Sv03.less x y = false := by
  unfold Sv03.less
  cases h1 : Sv03.isNan x
  · cases h2 : Sv03.isNan y
    · rw [h1, h2] at h
      have h3 : Sv03.same x y = true := by simpa using h
      simp [h3]
    · simp
  · simp
theorem less_rank {x y : Nat} (h1 : Sv03.isNan x = false) (h2 : Sv03.isNan y = false) (h3 : Sv03.same x y = false) : Sv03.less x y = decide (Sv03.rank x < Sv03.rank y) := by
  unfold Sv03.less
  simp [h1, h2, h3]
theorem same_nan {x y : Nat} (h : (Sv03.isNan x || Sv03.isNan y) = true) : Sv03.same x y = false := by
  unfold Sv03.same
  cases h1 : Sv03.isNan x
  · cases h2 : Sv03.isNan y
    · rw [h1, h2] at h
      cases h
    · simp
  · simp
end Hr

namespace Hr
/-! ### sums -/
theorem beq_one (m : Nat) : (m == 1) = decide (m = 1) := by
  rw [Bool.eq_iff_iff]
  simp
theorem inf_self {x : Nat} (hx : x < 65536) (h : Sv03.isInf x = true) : Sv03.signed (Sv03.minus x) 0x7C00 = x := by
  rw [isInf_is] at h
  have e := of_decide_eq_true h
  rw [minus_is hx]
  unfold Sv03.mag at e
  unfold Sv03.signed
  by_cases c : 32768 ≤ x
  · rw [decide_eq_true c, if_pos rfl]
    omega
  · rw [decide_eq_false c, if_neg Bool.false_ne_true]
    omega
theorem inf_ne {x y : Nat} (hx : x < 65536) (hy : y < 65536) (h : Sv03.isInf x = true) (h2 : Sv03.isInf y = true) : (!decide (x = y)) = (Sv03.minus x != Sv03.minus y) := by
  rw [isInf_is] at h h2
  have e := of_decide_eq_true h
  have e2 := of_decide_eq_true h2
  rw [minus_is hx, minus_is hy]
  unfold Sv03.mag at e e2
  by_cases c : 32768 ≤ x <;> by_cases d : 32768 ≤ y
  · rw [decide_eq_true c, decide_eq_true d, decide_eq_true (show x = y by omega)]; rfl
  · rw [decide_eq_true c, decide_eq_false d, decide_eq_false (show ¬ x = y by omega)]; rfl
  · rw [decide_eq_false c, decide_eq_true d, decide_eq_false (show ¬ x = y by omega)]; rfl
  · rw [decide_eq_false c, decide_eq_false d, decide_eq_true (show x = y by omega)]; rfl
section
variable {mode x y : Nat}
theorem sum_nan (hx : x < 65536) (hy : y < 65536) (h : (Sv03.isInf x && (Sv03.isInf y && !decide (x = y))) = true) (nx : Sv03.isNan x = false) (ny : Sv03.isNan y = false) : Sv03.sum mode x y = 32256 := by
  simp only [Bool.and_eq_true] at h
  obtain ⟨h1, h2, h3⟩ := h
  rw [inf_ne hx hy h1 h2] at h3
  unfold Sv03.sum
  rw [nx, ny, h1, h2, h3]
  rfl
theorem sum_infx (hx : x < 65536) (hy : y < 65536) (h : (Sv03.isInf x && (Sv03.isInf y && !decide (x = y))) = false) (nx : Sv03.isNan x = false) (ny : Sv03.isNan y = false) (ix : Sv03.isInf x = true) : Sv03.sum mode x y = x := by
  have e : (Sv03.isInf y && Sv03.minus x != Sv03.minus y) = false := by
    cases iy : Sv03.isInf y
    · rfl
    · rw [ix, iy, inf_ne hx hy ix iy] at h
      exact h
  unfold Sv03.sum
  rw [nx, ny, ix, e]
  simp only [Bool.or_self, Bool.false_eq_true, if_false, if_true]
  exact inf_self hx ix
theorem sum_infy (hy : y < 65536) (nx : Sv03.isNan x = false) (ny : Sv03.isNan y = false) (ix : Sv03.isInf x = false) (iy : Sv03.isInf y = true) : Sv03.sum mode x y = y := by
  unfold Sv03.sum
  rw [nx, ny, ix, iy]
  simp only [Bool.or_self, Bool.false_eq_true, if_false, if_true]
  exact inf_self hy iy
theorem sum_fin (nx : Sv03.isNan x = false) (ny : Sv03.isNan y = false) (ix : Sv03.isInf x = false) (iy : Sv03.isInf y = false) : Sv03.sum mode x y = Sv03.ofInt mode (Sv03.zeroSign mode (Sv03.minus x) (Sv03.minus y)) (Sv03.value x + Sv03.value y) 1 := by
  unfold Sv03.sum
  rw [nx, ny, ix, iy]
  simp only [Bool.or_self, Bool.false_eq_true, if_false]
end
theorem ofInt_zero {mode d : Nat} {z : Bool} {v : Int} (h : v = 0) : Sv03.ofInt mode z v d = Sv03.signed z 0 := if_pos h
theorem ofInt_ne {mode d : Nat} {z : Bool} {v : Int} (h : ¬ v = 0) : Sv03.ofInt mode z v d = Sv03.ofFraction mode (decide (v < 0)) v.natAbs d := if_neg h
theorem zeroSign_is (mode : Nat) (s t : Bool) : Sv03.zeroSign mode s t = if (s == t) = true then s else decide (mode = 1) := by
  unfold Sv03.zeroSign
  rw [beq_one]
  cases s <;> cases t <;> rfl
theorem value_abs (x : Nat) : (Sv03.value x).natAbs = Sv03.units (Sv03.mag x) := by
  unfold Sv03.value
  split <;> omega
theorem value_bound (x : Nat) : (Sv03.value x).natAbs < 2 ^ 42 := by
  rw [value_abs]
  exact units_bound (mag_lt x)
/-! ### products, quotients -/
section
variable {mode x y : Nat}
theorem product_nan (nx : Sv03.isNan x = false) (ny : Sv03.isNan y = false) (h : ((Sv03.isInf x && Sv03.isZero y) || (Sv03.isZero x && Sv03.isInf y)) = true) : Sv03.product mode x y = 32256 := by
  unfold Sv03.product
  rw [nx, ny]
  dsimp only
  rw [if_pos (by simpa using h)]
  rfl
theorem product_inf (nx : Sv03.isNan x = false) (ny : Sv03.isNan y = false) (h : ((Sv03.isInf x && Sv03.isZero y) || (Sv03.isZero x && Sv03.isInf y)) = false) (h2 : (Sv03.isInf x || Sv03.isInf y) = true) :
    Sv03.product mode x y = Sv03.signed (Sv03.minus x != Sv03.minus y) 31744 := by
  unfold Sv03.product
  rw [nx, ny]
  dsimp only
  rw [if_neg (by simpa using h), if_pos h2]
theorem units_pos {m : Nat} (h : m ≠ 0) : 0 < Sv03.units m := by
  have := units_mono (show 1 ≤ m by omega)
  exact Nat.lt_of_lt_of_le (by decide) this
theorem zero_units (h : Sv03.isZero x = true) : Sv03.units (Sv03.mag x) = 0 := by
  rw [isZero_is] at h
  rw [of_decide_eq_true h]
  rfl
theorem nonzero_units (h : Sv03.isZero x = false) : 0 < Sv03.units (Sv03.mag x) := by
  rw [isZero_is] at h
  exact units_pos (of_decide_eq_false h)
theorem product_fin (hm : mode ≤ 3) (nx : Sv03.isNan x = false) (ny : Sv03.isNan y = false) (h : ((Sv03.isInf x && Sv03.isZero y) || (Sv03.isZero x && Sv03.isInf y)) = false) (h2 : (Sv03.isInf x || Sv03.isInf y) = false) :
    Sv03.ofFraction mode (Sv03.minus x != Sv03.minus y) (Sv03.units (Sv03.mag x) * Sv03.units (Sv03.mag y)) (2 ^ 24) = Sv03.product mode x y := by
  unfold Sv03.product
  rw [nx, ny]
  dsimp only
  rw [if_neg (by simpa using h), if_neg (by rw [h2]; exact Bool.false_ne_true)]
  by_cases c : (Sv03.isZero x || Sv03.isZero y) = true
  · rw [if_pos c]
    have e : Sv03.units (Sv03.mag x) * Sv03.units (Sv03.mag y) = 0 := by
      rw [Bool.or_eq_true] at c
      rcases c with c | c
      · rw [zero_units c, Nat.zero_mul]
      · rw [zero_units c, Nat.mul_zero]
    rw [e]
    exact fraction_zero (pow_pos _) hm _
  · rw [if_neg c]
theorem quotient_nan (nx : Sv03.isNan x = false) (ny : Sv03.isNan y = false) (h : ((Sv03.isInf x && Sv03.isInf y) || (Sv03.isZero x && Sv03.isZero y)) = true) : Sv03.quotient mode x y = 32256 := by
  unfold Sv03.quotient
  rw [nx, ny]
  dsimp only
  rw [if_pos (by simpa using h)]
  rfl
theorem quotient_inf (nx : Sv03.isNan x = false) (ny : Sv03.isNan y = false) (h : ((Sv03.isInf x && Sv03.isInf y) || (Sv03.isZero x && Sv03.isZero y)) = false) (h2 : (Sv03.isInf x || Sv03.isZero y) = true) :
    Sv03.quotient mode x y = Sv03.signed (Sv03.minus x != Sv03.minus y) 31744 := by
  unfold Sv03.quotient
  rw [nx, ny]
  dsimp only
  rw [if_neg (by simpa using h), if_pos h2]
theorem quotient_zero (nx : Sv03.isNan x = false) (ny : Sv03.isNan y = false) (h : ((Sv03.isInf x && Sv03.isInf y) || (Sv03.isZero x && Sv03.isZero y)) = false) (h2 : (Sv03.isInf x || Sv03.isZero y) = false) (h3 : Sv03.isInf y = true) :
    Sv03.quotient mode x y = Sv03.signed (Sv03.minus x != Sv03.minus y) 0 := by
  unfold Sv03.quotient
  rw [nx, ny]
  dsimp only
  rw [if_neg (by simpa using h), if_neg (by rw [h2]; exact Bool.false_ne_true), if_pos (by rw [h3, Bool.or_true])]
theorem quotient_fin (hm : mode ≤ 3) (nx : Sv03.isNan x = false) (ny : Sv03.isNan y = false) (h : ((Sv03.isInf x && Sv03.isInf y) || (Sv03.isZero x && Sv03.isZero y)) = false) (h2 : (Sv03.isInf x || Sv03.isZero y) = false) (h3 : Sv03.isInf y = false) :
    Sv03.ofFraction mode (Sv03.minus x != Sv03.minus y) (Sv03.units (Sv03.mag x) * 2 ^ 24) (Sv03.units (Sv03.mag y)) = Sv03.quotient mode x y := by
  have zy : Sv03.isZero y = false := by
    cases z : Sv03.isZero y
    · rfl
    · rw [z, Bool.or_true] at h2
      cases h2
  unfold Sv03.quotient
  rw [nx, ny]
  dsimp only
  rw [if_neg (by simpa using h), if_neg (by rw [h2]; exact Bool.false_ne_true), h3, Bool.or_false]
  by_cases c : Sv03.isZero x = true
  · rw [if_pos c, zero_units c, Nat.zero_mul]
    exact fraction_zero (nonzero_units zy) hm _
  · rw [if_neg c]
end
/-! ### roots -/
theorem sq_lt {a b : Nat} (h : a < b) : a * a < b * b := Nat.mul_lt_mul'' h h
theorem sq_le {a b : Nat} (h : a ≤ b) : a * a ≤ b * b := Nat.mul_le_mul h h
theorem sq_lt_imp {a b : Nat} (h : a * a < b * b) : a < b := by
  rcases Nat.lt_or_ge a b with c | c
  · exact c
  · exact absurd (sq_le c) (by omega)
theorem root_cmp {u r : Nat} (h1 : r * r ≤ u * 2 ^ 32) (h2 : u * 2 ^ 32 < (r + 1) * (r + 1)) (t : Nat) :
    compare (t * t) (4 * u * 2 ^ 24) = compare (t * (2 * 2 ^ 4)) (2 * (2 * r + (decide (r * r < u * 2 ^ 32)).toNat)) := by
  have e32 : (2 : Nat) ^ 32 = 64 * (4 * 2 ^ 24) / 1 := by decide
  -- upon s = 8 t
  have k : ∀ s : Nat, s = 8 * t → compare (t * t) (4 * u * 2 ^ 24) = compare (s * s) (u * 2 ^ 32) := fun s es => by
    have e : s * s = 64 * (t * t) := by
      subst es
      rw [Nat.mul_mul_mul_comm]
    have f : u * 2 ^ 32 = 64 * (4 * u * 2 ^ 24) := by
      have g1 : (2 : Nat) ^ 32 = 4294967296 := by decide
      have g2 : (2 : Nat) ^ 24 = 16777216 := by decide
      rw [g1, g2]
      omega
    rw [e, f]
    rcases Nat.lt_trichotomy (t * t) (4 * u * 2 ^ 24) with z | z | z
    · rw [Nat.compare_eq_lt.mpr z, Nat.compare_eq_lt.mpr (by omega)]
    · rw [Nat.compare_eq_eq.mpr z, Nat.compare_eq_eq.mpr (by omega)]
    · rw [Nat.compare_eq_gt.mpr z, Nat.compare_eq_gt.mpr (by omega)]
  rw [k (8 * t) rfl]
  have e4 : (2 : Nat) ^ 4 = 16 := by decide
  rw [e4]
  generalize u * 2 ^ 32 = q at h1 h2 ⊢
  by_cases c : r * r < q
  · rw [decide_eq_true c, Bool.toNat_true]
    rcases Nat.lt_or_ge r (8 * t) with d | d
    · have := sq_le (show r + 1 ≤ 8 * t by omega)
      rw [Nat.compare_eq_gt.mpr (by omega), Nat.compare_eq_gt.mpr (by omega)]
    · have := sq_le d
      rw [Nat.compare_eq_lt.mpr (by omega), Nat.compare_eq_lt.mpr (by omega)]
  · rw [decide_eq_false c, Bool.toNat_false]
    have eq : q = r * r := by omega
    subst eq
    rcases Nat.lt_trichotomy (8 * t) r with d | d | d
    · rw [Nat.compare_eq_lt.mpr (sq_lt d), Nat.compare_eq_lt.mpr (by omega)]
    · rw [Nat.compare_eq_eq.mpr (by rw [d]), Nat.compare_eq_eq.mpr (by omega)]
    · rw [Nat.compare_eq_gt.mpr (sq_lt d), Nat.compare_eq_gt.mpr (by omega)]
theorem root_is {mode x r : Nat} (nx : Sv03.isNan x = false) (zx : Sv03.isZero x = false) (sx : Sv03.minus x = false) (ix : Sv03.isInf x = false)
    (h1 : r * r ≤ Sv03.units (Sv03.mag x) * 2 ^ 32) (h2 : Sv03.units (Sv03.mag x) * 2 ^ 32 < (r + 1) * (r + 1)) :
    Sv03.ofFraction mode false (2 * r + (decide (r * r < Sv03.units (Sv03.mag x) * 2 ^ 32)).toNat) (2 * 2 ^ 4) = Sv03.root mode x := by
  unfold Sv03.root
  rw [nx, zx, sx, ix]
  simp only [Bool.false_eq_true, if_false]
  unfold Sv03.ofFraction
  congr 1
  funext t
  exact (root_cmp h1 h2 t).symm
theorem root_nan {mode x : Nat} (nx : Sv03.isNan x = false) (zx : Sv03.isZero x = false) (sx : Sv03.minus x = true) : Sv03.root mode x = 32256 := by
  unfold Sv03.root
  rw [nx, zx, sx]
  rfl
theorem root_zero {mode x : Nat} (hx : x < 65536) (nx : Sv03.isNan x = false) (zx : Sv03.isZero x = true) : Sv03.root mode x = x := by
  unfold Sv03.root
  rw [nx, zx]
  simp only [Bool.false_eq_true, if_false, if_true]
  exact Nat.mod_eq_of_lt hx
theorem root_inf {mode x : Nat} (hx : x < 65536) (nx : Sv03.isNan x = false) (zx : Sv03.isZero x = false) (sx : Sv03.minus x = false) (ix : Sv03.isInf x = true) : Sv03.root mode x = x := by
  have e := inf_self hx ix
  rw [sx] at e
  unfold Sv03.root
  rw [nx, zx, sx, ix]
  simp only [Bool.false_eq_true, if_false, if_true]
  exact e
/-! the search for the root: found stands, p more places below -/
structure Roots (n found p : Nat) : Prop where
  lo : found * found ≤ n
  hi : n < (found + 2 ^ p) * (found + 2 ^ p)
theorem roots_start (n : Nat) : Roots n 0 (len n / 2 + 1) := by
  refine ⟨Nat.zero_le _, ?_⟩
  rw [Nat.zero_add, ← Nat.pow_add]
  exact Nat.lt_of_lt_of_le (lt_len n) (pow_le_pow (by omega))
theorem roots_up {n found p : Nat} (h : Roots n found (p + 1)) (c : (found + 2 ^ p) * (found + 2 ^ p) ≤ n) : Roots n (found + 2 ^ p) p := by
  refine ⟨c, ?_⟩
  have := h.hi
  rw [Nat.pow_succ] at this
  rw [Nat.add_assoc, show 2 ^ p + 2 ^ p = 2 ^ p * 2 by omega]
  exact this
theorem roots_stay {n found p : Nat} (h : Roots n found (p + 1)) (c : ¬ (found + 2 ^ p) * (found + 2 ^ p) ≤ n) : Roots n found p := ⟨h.lo, by omega⟩
theorem roots_bound {n found p b : Nat} (h : Roots n found p) (hn : n < 2 ^ (2 * b)) : found < 2 ^ b := by
  refine sq_lt_imp (Nat.lt_of_le_of_lt h.lo ?_)
  rw [← Nat.pow_add, show b + b = 2 * b by omega]
  exact hn
/-! ### fused -/
theorem signed_inf (s : Bool) : Sv03.signed s 31744 < 65536 ∧ Sv03.isNan (Sv03.signed s 31744) = false ∧ Sv03.isInf (Sv03.signed s 31744) = true ∧ Sv03.minus (Sv03.signed s 31744) = s := by
  cases s <;> decide
section
variable {mode x y z : Nat}
theorem fused_nan (nx : Sv03.isNan x = false) (ny : Sv03.isNan y = false) (nz : Sv03.isNan z = false) (h : ((Sv03.isInf x && Sv03.isZero y) || (Sv03.isZero x && Sv03.isInf y)) = true) : Sv03.fused mode x y z = 32256 := by
  unfold Sv03.fused
  rw [nx, ny, nz]
  dsimp only
  rw [if_pos (by simpa using h)]
  rfl
theorem fused_inf (nx : Sv03.isNan x = false) (ny : Sv03.isNan y = false) (nz : Sv03.isNan z = false) (h : ((Sv03.isInf x && Sv03.isZero y) || (Sv03.isZero x && Sv03.isInf y)) = false) (h2 : (Sv03.isInf x || Sv03.isInf y) = true) :
    Sv03.sum mode (Sv03.signed (Sv03.minus x != Sv03.minus y) 31744) z = Sv03.fused mode x y z := by
  obtain ⟨_, b, c, d⟩ := signed_inf (Sv03.minus x != Sv03.minus y)
  unfold Sv03.fused Sv03.sum
  rw [b, c, d, nx, ny, nz]
  dsimp only
  rw [if_neg (by decide), if_pos rfl]
  conv => rhs; rw [if_neg (by simpa using h), if_pos h2]
theorem fused_z (hz : z < 65536) (nx : Sv03.isNan x = false) (ny : Sv03.isNan y = false) (nz : Sv03.isNan z = false) (h : ((Sv03.isInf x && Sv03.isZero y) || (Sv03.isZero x && Sv03.isInf y)) = false) (h2 : (Sv03.isInf x || Sv03.isInf y) = false) (h3 : Sv03.isInf z = true) : Sv03.fused mode x y z = z := by
  unfold Sv03.fused
  rw [nx, ny, nz]
  dsimp only
  rw [if_neg (by simpa using h), if_neg (by rw [h2]; exact Bool.false_ne_true), if_pos h3]
  exact inf_self hz h3
theorem fused_fin (nx : Sv03.isNan x = false) (ny : Sv03.isNan y = false) (nz : Sv03.isNan z = false) (h : ((Sv03.isInf x && Sv03.isZero y) || (Sv03.isZero x && Sv03.isInf y)) = false) (h2 : (Sv03.isInf x || Sv03.isInf y) = false) (h3 : Sv03.isInf z = false) :
    Sv03.fused mode x y z = Sv03.ofInt mode (Sv03.zeroSign mode (Sv03.minus x != Sv03.minus y) (Sv03.minus z)) (Sv03.value x * Sv03.value y + Sv03.value z * 16777216) 16777216 := by
  unfold Sv03.fused
  rw [nx, ny, nz]
  dsimp only
  rw [if_neg (by simpa using h), if_neg (by rw [h2]; exact Bool.false_ne_true), if_neg (by rw [h3]; exact Bool.false_ne_true)]
  rfl
end
/-! ### what an operation makes -/
def used (o x y z : Nat) : List Nat := if o = 4 then [x] else if o = 5 then [x, y, z] else [x, y]
theorem arith_nan {o m x y z : Nat} (ho : o ≤ 7) (h : (((used o x y z).map Sv03.isNan).any id) = true) : Sv03.arith o m x y z = 32256 := by
  match o, ho with
  | 0, _ => simp [used] at h; simp [Sv03.arith, Sv03.sum, Sv03.NAN, h]
  | 1, _ =>
    simp [used] at h
    show (if Sv03.isNan y = true then Sv03.NAN else Sv03.sum m x (Sv03.opposite y)) = 32256
    by_cases c : Sv03.isNan y = true
    · rw [if_pos c]; rfl
    · rw [if_neg c]
      have : Sv03.isNan x = true := by rcases h with h | h; exact h; exact absurd h c
      simp [Sv03.sum, this, Sv03.NAN]
  | 2, _ =>
    simp [used] at h
    show Sv03.product m x y = 32256
    unfold Sv03.product
    dsimp only
    rw [if_pos (by rcases h with h | h <;> simp [h])]
    rfl
  | 3, _ =>
    simp [used] at h
    show Sv03.quotient m x y = 32256
    unfold Sv03.quotient
    dsimp only
    rw [if_pos (by rcases h with h | h <;> simp [h])]
    rfl
  | 4, _ => simp [used] at h; simp [Sv03.arith, Sv03.root, Sv03.NAN, h]
  | 5, _ =>
    simp [used] at h
    show Sv03.fused m x y z = 32256
    unfold Sv03.fused
    dsimp only
    rw [if_pos (by rcases h with h | h | h <;> simp [h])]
    rfl
  | 6, _ => simp [used] at h; simp [Sv03.arith, Sv03.least, Sv03.NAN, h]
  | 7, _ => simp [used] at h; simp [Sv03.arith, Sv03.most, Sv03.NAN, h]
theorem nan_opposite {y : Nat} (h : Sv03.isNan y = false) : Sv03.isNan (Sv03.opposite y) = false := by
  have e : Sv03.mag (Sv03.opposite y) = Sv03.mag y := by
    have := mag_lt y
    unfold Sv03.opposite Sv03.signed
    generalize Sv03.mag y = m at this ⊢
    unfold Sv03.mag
    cases Sv03.minus y <;> simp <;> omega
  unfold Sv03.isNan
  rw [e]
  exact h
theorem opposite_lt (y : Nat) : Sv03.opposite y < 65536 := by
  have := mag_lt y
  unfold Sv03.opposite Sv03.signed
  split <;> omega
theorem pick {o m x y z : Nat} (h : o = 6 ∨ o = 7) (hx : x < 65536) (hy : y < 65536) (nx : Sv03.isNan x = false) (ny : Sv03.isNan y = false) :
    (if (decide (Sv03.rank x ≤ Sv03.rank y) == decide (o = 6)) = true then x else y) = Sv03.arith o m x y z := by
  rcases h with rfl | rfl
  · show _ = Sv03.least x y
    unfold Sv03.least
    rw [nx, ny, Nat.mod_eq_of_lt hx, Nat.mod_eq_of_lt hy]
    by_cases c : Sv03.rank x ≤ Sv03.rank y <;> simp [c]
  · show _ = Sv03.most x y
    unfold Sv03.most
    rw [nx, ny, Nat.mod_eq_of_lt hx, Nat.mod_eq_of_lt hy]
    by_cases c : Sv03.rank x ≤ Sv03.rank y <;> simp [c]
end Hr

namespace Hr
open PySem PySem.Spec PyProof.Rows L2
/-! ### own words over the hand layer -/
/-- a module's constant -/
def Cst (mg : Str → Option Value) (x : Str) (v : V) : Prop := ∃ u, mg x = some u ∧ RelV v u
/-- a def of the text as it stands -/
def Raw (K : PySem.W.Frag) (mg : Str → Option Value) (x : Str) (st : Stmt) (ps : List Str) : Prop := ∃ f fd, Fun K x x st f fd ∧ Binds K fd ps [] ∧ mg x = some (.ref f)
/-- a def that keeps a promise -/
def Def (P : Program) (w : World) (K : PySem.W.Frag) (mg : Str → Option Value) (base : Heap) (k : Nat) (x : Str) (ps : List Str) (sp : Sp) : Prop :=
  ∃ f fd, FnOk P w K mg base CX0 k f fd ps sp ∧ Binds K fd ps [] ∧ PySem.W.keepIn K (.ref f) = true ∧ mg x = some (.ref f) ∧ ∃ oc od osl, K.lookup f = some ⟨oc, od, .func fd, osl⟩
theorem look {K : PySem.W.Frag} {x q : Str} {st : Stmt} {f : Addr} {fd : FuncData} (F : Fun K x q st f fd) : ∃ oc od osl, K.lookup f = some ⟨oc, od, .func fd, osl⟩ := by
  obtain ⟨oc, od, _, _, _, _, _, _, osl, _, lk, _⟩ := F.ex
  exact ⟨oc, od, osl, lk⟩
theorem pe_cst {X : Cx} {x : Str} {v : V} {pos : Pos} (c : Cst X.mg x v) (hg : Gl X x := by rfl) (hd : (x == ("__debug__" : Str)) = false := by decide) : PE X (.Name x pos) (tC v) := by
  obtain ⟨u, h, r⟩ := c
  exact pe_glob hg h r hd
theorem pe_def {X : Cx} {k : Nat} {x : Str} {ps : List Str} {sp : Sp} {p pos : Pos} {e : Expr} {es : List Expr} {t : TA} (D : Def X.prog X.w X.K X.mg X.base k x ps sp) (hr : Room k X.A) (ha : PA X (e :: es) t) (hg : Gl X x := by rfl)
    (hdb : (x == ("__debug__" : Str)) = false := by decide) (he : starEach (e :: es) X.env = (false, eval e X.env) :: starEach es X.env := by rfl) (hpl : (backTo pos (starEach es X.env)).any (·.1) = false := by rfl) :
    PE X (.Call (.Name x p) (e :: es) [] pos) (tCall sp [] E0 t) := by
  obtain ⟨f, fd, F, b, kp, m, _⟩ := D
  exact pe_call F hr hg m kp b .nil pass0 ha hdb he hpl
theorem raw_mk {K : PySem.W.Frag} {h : Heap} {mg : Str → Option Value} {x : Str} {st : Stmt} {ps : List Str} {f : Addr} {oc : Value} {od an : Option Addr} {osl : Array (Option Value)} {kV doc pm cdv ct : Value} (X : K.In h) (G : h.Ns mainGlobals mg)
    (a : PySem.W.nsIn K mainGlobals x = some (some (.ref f))) (l : K.lookup f = some ⟨oc, od, .func (PySem.W.fnOf x x (defArgs st) (defBody st) (defScope st) .none kV doc pm an cdv ct), osl⟩)
    (c : PySem.W.codeIn K cdv x = true) (k : PySem.W.keepIn K (.ref f) = true)
    (hb : ∀ (kV doc pm : Value) (an : Option Addr) (cdv ct : Value) (us : List Value), us.length = ps.length → bindArgs (PySem.W.fnOf x x (defArgs st) (defBody st) (defScope st) .none kV doc pm an cdv ct) ⟨us, []⟩ = pure (ps.zip us)) : Raw K mg x st ps := by
  have F := fun_mk (x := x) (qual := x) (st := st) l c k
  exact ⟨f, _, F, F.binds hb, PySem.W.mg_of X G a⟩
/-- the promise at the def's own function data -/
theorem def_at {P : Program} {w : World} {K : PySem.W.Frag} {mg : Str → Option Value} {base : Heap} {k : Nat} {x : Str} {ps : List Str} {sp : Sp} {f : Addr} {fd : FuncData} (D : Def P w K mg base k x ps sp) (hm : mg x = some (.ref f))
    {oc : Value} {od : Option Addr} {osl : Array (Option Value)} (l : K.lookup f = some ⟨oc, od, .func fd, osl⟩) : FnOk P w K mg base CX0 k f fd ps sp := by
  obtain ⟨f', fd', G, _, _, m, oc', od', osl', lk⟩ := D
  have e := hm.symm.trans m
  cases e
  have e2 := l.symm.trans lk
  cases e2
  exact G
/-- the table of widths -/
def SqW (K : PySem.W.Frag) (a : Addr) : Prop := ∀ H : Hp, SqT K H a [.int 8, .int 16, .int 32, .int 64]
theorem sqW_of {K : PySem.W.Frag} {a : Addr} {od : Option Addr} {n : Nat} {sl : Array (Option Value)} {t1 t2 t3 t4 : Tok} (l : K.lookup a = some ⟨.type "tuple", od, .seq #[.int 8 t1, .int 16 t2, .int 32 t3, .int 64 t4] n, sl⟩) : SqW K a := fun H =>
  .inr ⟨_, _, n, l, rfl, rfl, (by show 4 ≤ sizeLine; decide), .cons ⟨_, rfl⟩ (.cons ⟨_, rfl⟩ (.cons ⟨_, rfl⟩ (.cons ⟨_, rfl⟩ .nil)))⟩
theorem op_notInW {X : Cx} {a : Addr} (hW : SqW X.K a) : OpR X (compareOp .NotIn) (fun x y H Q => ∃ w : Int, x = .int w ∧ y = .ref a ∧ Q (.bl (!decide (w ∈ Sv03.widths))) H) := by
  intro pins s σ H x y v u Q I rx ry h
  obtain ⟨w, rfl, rfl, q⟩ := h
  refine op_notIn_seq pins s σ H _ _ v u Q I rx ry ⟨a, _, rfl, .inr (hW H), rfl, rfl, ?_⟩
  have e : inV (.int w) [.int 8, .int 16, .int 32, .int 64] = decide (w ∈ Sv03.widths) := by
    show ((8 : Int) == w || ((16 : Int) == w || ((32 : Int) == w || ((64 : Int) == w || false)))) = decide (w ∈ [8, 16, 32, 64])
    rw [Bool.eq_iff_iff]
    simp only [Bool.or_eq_true, beq_iff_eq, decide_eq_true_eq, List.mem_cons, List.not_mem_nil, Bool.false_eq_true, or_false]
    omega
  rw [e]
  exact q
theorem widths_nat {w : Int} (h : w ∈ Sv03.widths) : ∃ n : Nat, w = (n : Int) ∧ (n = 8 ∨ n = 16 ∨ n = 32 ∨ n = 64) := by
  simp [Sv03.widths] at h
  rcases h with h | h | h | h
  · exact ⟨8, h, by omega⟩
  · exact ⟨16, h, by omega⟩
  · exact ⟨32, h, by omega⟩
  · exact ⟨64, h, by omega⟩
theorem same_new {H : Hp} {p : Addr} (h : H p = none) {o : HO} : Same H (upd H p o) := fun b u q => by rw [upd_ne (ne_of_none q h)]; exact q
/-! ### operators upon numbers that are not negative -/
def rLtNN : R2 := fun x y H Q => ∃ n m : Nat, x = .int (n : Int) ∧ y = .int (m : Int) ∧ Q (.bl (decide (n < m))) H
section
variable {X : Cx}
theorem op_modNN : OpR X (binaryOp .Mod) (fun x y H Q => ∃ n m : Nat, x = .int (n : Int) ∧ y = .int (m : Int) ∧ 0 < m ∧ Q (.int ((n % m : Nat) : Int)) H) := by
  intro pins s σ H x y v u Q I rx ry h
  obtain ⟨n, m, rfl, rfl, c, q⟩ := h
  rw [Int.natCast_emod] at q
  exact op_mod pins s σ H _ _ v u Q I rx ry ⟨_, _, rfl, rfl, by omega, q⟩
theorem op_fdivNW : OpR X (binaryOp .FloorDiv) (fun x y H Q => ∃ n m b : Nat, x = .int (n : Int) ∧ y = .int (m : Int) ∧ (0 < m ∧ m < 2 ^ b ∧ 0 < b ∧ b ≤ 9000) ∧ Q (.int ((n / m : Nat) : Int)) H) := by
  intro pins s σ H x y v u Q I rx ry h
  obtain ⟨n, m, b, rfl, rfl, ⟨c1, c2, c3, c4⟩, q⟩ := h
  rw [Int.natCast_ediv] at q
  exact op_fdivW pins s σ H _ _ v u Q I rx ry ⟨_, _, rfl, rfl, wide_div (by omega) (by simpa using c2) c3 c4, q⟩
theorem op_mulNW : OpR X (binaryOp .Mult) (fun x y H Q => ∃ n m a b : Nat, x = .int (n : Int) ∧ y = .int (m : Int) ∧ (n < 2 ^ a ∧ m < 2 ^ b ∧ 0 < a ∧ 0 < b ∧ a + b ≤ 1000000) ∧ Q (.int ((n * m : Nat) : Int)) H) := by
  intro pins s σ H x y v u Q I rx ry h
  obtain ⟨n, m, a, b, rfl, rfl, ⟨c1, c2, c3, c4, c5⟩, q⟩ := h
  rw [Int.natCast_mul] at q
  exact op_mulW pins s σ H _ _ v u Q I rx ry ⟨_, _, rfl, rfl, wide_mul (by simpa using c1) (by simpa using c2) c3 c4 c5, q⟩
theorem cast_two_pow (k : Nat) : (((2 ^ k : Nat) : Nat) : Int) = 2 ^ k := by
  rw [Int.natCast_pow]; rfl
theorem op_shlNN : OpR X (binaryOp .LShift) (fun x y H Q => ∃ n k b : Nat, x = .int (n : Int) ∧ y = .int (k : Int) ∧ (n < 2 ^ b ∧ b + k ≤ 100000) ∧ Q (.int ((n * 2 ^ k : Nat) : Int)) H) := by
  intro pins s σ H x y v u Q I rx ry h
  obtain ⟨n, k, b, rfl, rfl, ⟨c1, c2⟩, q⟩ := h
  rw [Int.natCast_mul, cast_two_pow] at q
  exact op_shlN pins s σ H _ _ v u Q I rx ry ⟨_, k, rfl, rfl, shl_ok (n := b) (by simpa using c1) (by omega), q⟩
theorem op_shrNN : OpR X (binaryOp .RShift) (fun x y H Q => ∃ n k : Nat, x = .int (n : Int) ∧ y = .int (k : Int) ∧ Q (.int ((n / 2 ^ k : Nat) : Int)) H) := by
  intro pins s σ H x y v u Q I rx ry h
  obtain ⟨n, k, rfl, rfl, q⟩ := h
  rw [Int.natCast_ediv, cast_two_pow] at q
  exact op_shrN pins s σ H _ _ v u Q I rx ry ⟨_, k, rfl, rfl, q⟩
theorem bitAnd_NN (n m : Nat) : Builtin.bitAnd (n : Int) (m : Int) = ((n &&& m : Nat) : Int) := by
  unfold Builtin.bitAnd
  simp
theorem op_andNN : OpR X (binaryOp .BitAnd) (fun x y H Q => ∃ n m : Nat, x = .int (n : Int) ∧ y = .int (m : Int) ∧ Q (.int ((n &&& m : Nat) : Int)) H) := by
  intro pins s σ H x y v u Q I rx ry h
  obtain ⟨n, m, rfl, rfl, q⟩ := h
  rw [← bitAnd_NN] at q
  exact op_and pins s σ H _ _ v u Q I rx ry ⟨_, _, rfl, rfl, q⟩
theorem op_orNN : OpR X (binaryOp .BitOr) (fun x y H Q => ∃ n m : Nat, x = .int (n : Int) ∧ y = .int (m : Int) ∧ Q (.int ((n ||| m : Nat) : Int)) H) := by
  intro pins s σ H x y v u Q I rx ry h
  obtain ⟨n, m, rfl, rfl, q⟩ := h
  have e := bitOr_nn (Int.natCast_nonneg n) (Int.natCast_nonneg m)
  rw [Int.toNat_natCast, Int.toNat_natCast] at e
  rw [← e] at q
  exact op_or pins s σ H _ _ v u Q I rx ry ⟨_, _, rfl, rfl, q⟩
theorem op_xorNN : OpR X (binaryOp .BitXor) (fun x y H Q => ∃ n m : Nat, x = .int (n : Int) ∧ y = .int (m : Int) ∧ Q (.int ((n ^^^ m : Nat) : Int)) H) := by
  intro pins s σ H x y v u Q I rx ry h
  obtain ⟨n, m, rfl, rfl, q⟩ := h
  have e := Bits.bitXor_pp (Int.natCast_nonneg n) (Int.natCast_nonneg m)
  rw [Int.toNat_natCast, Int.toNat_natCast] at e
  rw [← e] at q
  exact op_xor pins s σ H _ _ v u Q I rx ry ⟨_, _, rfl, rfl, q⟩
theorem op_ltNN : OpR X (compareOp .Lt) rLtNN := by
  intro pins s σ H x y v u Q I rx ry h
  obtain ⟨n, m, rfl, rfl, q⟩ := h
  exact op_lt pins s σ H _ _ v u Q I rx ry ⟨_, _, rfl, rfl, by simpa using q⟩
theorem op_leNN : OpR X (compareOp .LtE) (fun x y H Q => ∃ n m : Nat, x = .int (n : Int) ∧ y = .int (m : Int) ∧ Q (.bl (decide (n ≤ m))) H) := by
  intro pins s σ H x y v u Q I rx ry h
  obtain ⟨n, m, rfl, rfl, q⟩ := h
  exact op_le pins s σ H _ _ v u Q I rx ry ⟨_, _, rfl, rfl, by simpa using q⟩
theorem op_gtNN : OpR X (compareOp .Gt) (fun x y H Q => ∃ n m : Nat, x = .int (n : Int) ∧ y = .int (m : Int) ∧ Q (.bl (decide (m < n))) H) := by
  intro pins s σ H x y v u Q I rx ry h
  obtain ⟨n, m, rfl, rfl, q⟩ := h
  exact op_gt pins s σ H _ _ v u Q I rx ry ⟨_, _, rfl, rfl, by simpa using q⟩
theorem op_geNN : OpR X (compareOp .GtE) (fun x y H Q => ∃ n m : Nat, x = .int (n : Int) ∧ y = .int (m : Int) ∧ Q (.bl (decide (m ≤ n))) H) := by
  intro pins s σ H x y v u Q I rx ry h
  obtain ⟨n, m, rfl, rfl, q⟩ := h
  exact op_ge pins s σ H _ _ v u Q I rx ry ⟨_, _, rfl, rfl, by simpa using q⟩
theorem dec_int (n m : Int) : decide (V.int n = V.int m) = decide (n = m) := decide_eq_decide.mpr ⟨fun h => V.int.inj h, fun h => by rw [h]⟩
theorem dec_nat (n m : Nat) : decide (V.int (n : Int) = V.int (m : Int)) = decide (n = m) := by
  rw [dec_int]
  exact decide_eq_decide.mpr ⟨fun h => by omega, fun h => by omega⟩
theorem dec_bl (n m : Bool) : decide (V.bl n = V.bl m) = (n == m) := by cases n <;> cases m <;> decide
theorem op_eqNN : OpR X (compareOp .Eq) (fun x y H Q => ∃ n m : Nat, x = .int (n : Int) ∧ y = .int (m : Int) ∧ Q (.bl (decide (n = m))) H) := by
  intro pins s σ H x y v u Q I rx ry h
  obtain ⟨n, m, rfl, rfl, q⟩ := h
  exact op_eq pins s σ H _ _ v u Q I rx ry ⟨rfl, by rw [dec_nat]; exact q⟩
theorem op_neNN : OpR X (compareOp .NotEq) (fun x y H Q => ∃ n m : Nat, x = .int (n : Int) ∧ y = .int (m : Int) ∧ Q (.bl (!decide (n = m))) H) := by
  intro pins s σ H x y v u Q I rx ry h
  obtain ⟨n, m, rfl, rfl, q⟩ := h
  exact op_ne pins s σ H _ _ v u Q I rx ry ⟨rfl, by rw [dec_nat]; exact q⟩
theorem op_eqII : OpR X (compareOp .Eq) (fun x y H Q => ∃ n m : Int, x = .int n ∧ y = .int m ∧ Q (.bl (decide (n = m))) H) := by
  intro pins s σ H x y v u Q I rx ry h
  obtain ⟨n, m, rfl, rfl, q⟩ := h
  exact op_eq pins s σ H _ _ v u Q I rx ry ⟨rfl, by rw [dec_int]; exact q⟩
theorem op_eqBB : OpR X (compareOp .Eq) (fun x y H Q => ∃ n m : Bool, x = .bl n ∧ y = .bl m ∧ Q (.bl (n == m)) H) := by
  intro pins s σ H x y v u Q I rx ry h
  obtain ⟨n, m, rfl, rfl, q⟩ := h
  exact op_eq pins s σ H _ _ v u Q I rx ry ⟨rfl, by rw [dec_bl]; exact q⟩
theorem op_neBB : OpR X (compareOp .NotEq) (fun x y H Q => ∃ n m : Bool, x = .bl n ∧ y = .bl m ∧ Q (.bl (n != m)) H) := by
  intro pins s σ H x y v u Q I rx ry h
  obtain ⟨n, m, rfl, rfl, q⟩ := h
  exact op_ne pins s σ H _ _ v u Q I rx ry ⟨rfl, by rw [dec_bl]; exact q⟩
/-- int(flag) -/
theorem call_intB : CallR X (.type "int") (fun xs H Q => ∃ k : Bool, xs = [.bl k] ∧ Q (.int ((k.toNat : Nat) : Int)) H) := by
  intro pins s σ H xs us Q I r h
  obtain ⟨k, rfl, q⟩ := h
  refine call_int1 pins s σ H _ us Q I r (.inr ⟨k, rfl, ?_⟩)
  cases k <;> exact q
theorem call_absI : CallR X (.builtin "abs") (fun xs H Q => ∃ i : Int, xs = [.int i] ∧ Q (.int ((i.natAbs : Nat) : Int)) H) := by
  intro pins s σ H xs us Q I r h
  obtain ⟨i, rfl, q⟩ := h
  refine call_abs pins s σ H _ us Q I r ⟨i, rfl, ?_⟩
  have e : (if i < 0 then -i else i) = ((i.natAbs : Nat) : Int) := by split <;> omega
  rw [e]
  exact q
end
end Hr
namespace Hr
open PySem PySem.Spec PyProof.Rows L2
/-! ### the request -/
theorem dw_int1 {K : PySem.W.Frag} {H : Hp} {v : V} {i : Int} (h : Dw K H v (.int i)) : v = .int i := by
  cases h
  rfl
theorem dw_list1 {K : PySem.W.Frag} {H : Hp} {v : V} {ns : List Int} (h : Dw K H v (.list (ns.map PySem.W.WData.int))) : ∃ p, v = .ref p ∧ SqL K H p (ns.map V.int) := by
  generalize e : PySem.W.WData.list (ns.map PySem.W.WData.int) = d at h
  cases h <;> try cases e
  rename_i a xs hs ha
  exact ⟨a, rfl, by rw [← ints_dw ns xs ha]; exact hs⟩
theorem in_int {lo hi z : Int} (h : PySem.W.Codec.inInt lo hi z = true) : lo ≤ z ∧ z ≤ hi := PySem.W.Codec.inInt_iff.mp h
theorem in_list {m : Nat} {lo hi : Int} {ns : List Int} (h : (PySem.W.Codec.inLen 0 m ns && ns.all (PySem.W.Codec.inInt lo hi)) = true) : ns.length ≤ m ∧ ∀ z ∈ ns, lo ≤ z ∧ z ≤ hi := by
  rw [Bool.and_eq_true] at h
  refine ⟨(PySem.W.Codec.inNat_iff.mp h.1).2, fun z hz => in_int (List.all_eq_true.mp h.2 z hz)⟩
/-- a list of numbers that are not negative -/
theorem nats_of {ns : List Int} {hi : Int} (h : ∀ z ∈ ns, 0 ≤ z ∧ z ≤ hi) : ∃ l : List Nat, ns = l.map (fun n : Nat => (n : Int)) ∧ ∀ n ∈ l, (n : Int) ≤ hi := by
  refine ⟨ns.map Int.toNat, ?_, fun n hn => ?_⟩
  · rw [List.map_map]
    refine (List.map_id ns).symm.trans (List.map_congr_left fun z hz => ?_)
    have := h z hz
    show z = ((z.toNat : Nat) : Int)
    omega
  · obtain ⟨z, hz, rfl⟩ := List.mem_map.mp hn
    have := h z hz
    omega
end Hr
namespace Hr
open PySem PySem.SeqAt
open PySem.AutoSeq1 (wpAny_loadPart')
open PySem.MeetsSeq PySem.MeetsSeq2 PySem.MeetsSeq3
/-! ### list + list, whoever holds them -/
theorem list_addAt (l b : Addr) (items items2 : Array Value) (n n2 : Nat) (sl sl2 : Array (Option Value)) (hz : items.size + items2.size ≤ sizeLine) :
    Meets (Builtin.«list.__add__» ⟨[.ref l, .ref b], []⟩)
      (fun _ R s => s.heap.get? l = some { cls := .type "list", dict := none, data := .seq items n, slots := sl } ∧ s.heap.get? b = some { cls := .type "list", dict := none, data := .seq items2 n2, slots := sl2 } ∧
        R (.ok (.ret (Value.ref s.heap.objs.size))) { s with heap := s.heap.push { cls := Value.type "list", data := Data.seq (items ++ items2) }, toks := s.toks }) :=
  .of_wp fun prog w A R s h => by
    obtain ⟨hp, g, d, tk, os⟩ := s
    obtain ⟨hl, hb, h⟩ := h
    have f1 := AutoSeq1.idx_int
    have f2 := AutoSeq1.sub_tuple_tuple
    have f3 := AutoSeq1.sub_list_list
    have f4 := AutoSeq1.sub_tuple_list
    have f5 := AutoSeq1.sub_list_tuple
    wp_walk using wpAny_loadPart' hl, wpAny_loadPart' hb
    exact ⟨_, rfl, h⟩
end Hr
namespace Hr
open PySem PySem.Spec PyProof.Rows L2
theorem op_catL {X : Cx} : OpR X (binaryOp .Add) (fun x y H Q => ∃ (l b : Addr) (xs zs : List V), x = .ref l ∧ y = .ref b ∧ SqL X.K H l xs ∧ SqL X.K H b zs ∧ xs.length + zs.length ≤ sizeLine ∧ ∀ p, H p = none → Q (.ref p) (upd H p (.lst (xs ++ zs)))) := by
  intro pins s σ H x y v u Q I rx ry h
  obtain ⟨l, b, xs, zs, rfl, rfl, hH, hB, hz, q⟩ := h
  cases rx
  cases ry
  obtain ⟨its, r, ⟨⟨oc, od, oa, osl⟩, n, e, e1, e2, e3⟩, _⟩ := I.list hH
  obtain ⟨its2, r2, ⟨⟨oc2, od2, oa2, osl2⟩, n2, e', e1', e2', e3'⟩, _⟩ := I.list hB
  cases e1
  cases e2
  cases e3
  cases e1'
  cases e2'
  cases e3'
  have hl := r.length
  have hl2 := r2.length
  have m := list_addAt l b its.toArray its2.toArray n n2 osl osl2 (by rw [List.size_toArray, List.size_toArray]; omega)
  refine concat_meets ⟨_, e, rfl⟩ ⟨_, e', rfl⟩ noFill_list_add seq_list_add F.slot_list_add F.entry_list_add (F.args_list_add_2 _ _) m ⟨e, e', ?_⟩
  have ea : its.toArray ++ its2.toArray = (its ++ its2).toArray := by simp
  rw [ea]
  exact ⟨.ref _, _, I.lnew (t' := s.toks) (r.append r2) (by rw [List.length_append]; omega), rfl, q _ I.fresh⟩
/-- 1 << k -/
theorem op_oneNN {X : Cx} : OpR X (binaryOp .LShift) (fun x y H Q => ∃ k : Nat, x = .int 1 ∧ y = .int (k : Int) ∧ k ≤ 100000 ∧ Q (.int ((2 ^ k : Nat) : Int)) H) := by
  intro pins s σ H x y v u Q I rx ry h
  obtain ⟨k, rfl, rfl, c, q⟩ := h
  rw [cast_two_pow] at q
  exact op_oneShl pins s σ H _ _ v u Q I rx ry ⟨k, rfl, rfl, by omega, q⟩
/-- max(0, n - m) -/
theorem call_maxSub {X : Cx} (hc : X.calm = true) : CallR X (.builtin "max") (fun xs H Q => ∃ n m : Nat, xs = [.int 0, .int ((n : Int) - (m : Int))] ∧ Q (.int ((n - m : Nat) : Int)) H) := by
  intro pins s σ H xs us Q I r h
  obtain ⟨n, m, rfl, q⟩ := h
  refine call_max2 hc pins s σ H _ us Q I r ⟨0, _, rfl, ?_⟩
  have e : (if (n : Int) - (m : Int) > 0 then (n : Int) - (m : Int) else 0) = ((n - m : Nat) : Int) := by split <;> omega
  rw [e]
  exact q
/-- a row's numbers as values -/
def vN (n : Nat) : V := .int (n : Int)
def castN (l : List Nat) : List Int := l.map fun n : Nat => (n : Int)
theorem cast_map (l : List Nat) : (castN l).map V.int = l.map vN := by
  unfold castN
  rw [List.map_map]
  rfl
theorem castN_toNat (l : List Nat) : (castN l).map Int.toNat = l := cast_nat l
theorem zeros (m : Nat) : (List.replicate m ([.int 0] : List V)).flatten = (List.replicate m 0).map vN := by
  induction m with
  | zero => rfl
  | succ m ih => rw [List.replicate_succ, List.flatten_cons, ih]; rfl
end Hr
namespace Hr
open PySem PySem.Spec PyProof.Rows L2
theorem ixN_row {k : Nat} {l : List Nat} {g : Nat → Nat} {j i : Nat} (h : i < 32) : ixN ((part k l g j).map vN).length (i : Int) = some i := by
  rw [List.length_map]
  unfold part
  rw [each_len]
  unfold ixN
  rw [if_pos (by omega), if_pos (by omega), Int.toNat_natCast]
end Hr
namespace Hr
open PySem PySem.Spec PyProof.Rows L2
/-! ### and, or, chains whose further parts change nothing: one way -/
theorem and_pure {c d : Bool} {tb : TE} {σ : L2.St} {H : Hp} {Q : VK} (h : ∀ Q' : VK, Q' (.bl d) H → tb σ H Q') (q : Q (.bl (c && d)) H) : if c = true then tb σ H Q else Q (.bl false) H := by
  cases c
  · exact iteF q
  · exact iteT (h Q q)
theorem or_pure {c d : Bool} {tb : TE} {σ : L2.St} {H : Hp} {Q : VK} (h : ∀ Q' : VK, Q' (.bl d) H → tb σ H Q') (q : Q (.bl (c || d)) H) : if c = true then Q (.bl true) H else tb σ H Q := by
  cases c
  · exact iteF (h Q q)
  · exact iteT q
theorem chain_pure {c d : Bool} {tc : TE} {r : R2} {y : V} {σ : L2.St} {H : Hp} {Q : VK} (h : ∀ Q' : VK, Q' (.bl d) H → tc σ H fun w H4 => r y w H4 Q') (q : Q (.bl (c && d)) H) : if c = true then (tc σ H fun w H4 => r y w H4 Q) else Q (.bl false) H := by
  cases c
  · exact iteF q
  · exact iteT (h Q q)
/-- int(n) -/
theorem call_intN {X : Cx} : CallR X (.type "int") (fun xs H Q => ∃ n : Nat, xs = [.int (n : Int)] ∧ Q (.int (n : Int)) H) := by
  intro pins s σ H xs us Q I r h
  obtain ⟨n, rfl, q⟩ := h
  exact call_int1 pins s σ H _ us Q I r (.inl ⟨_, rfl, q⟩)
theorem cast_sum : ∀ l : List Nat, (castN l).sum = ((l.sum : Nat) : Int)
  | [] => rfl
  | x :: r => by
    show ((x : Int) :: castN r).sum = _
    rw [List.sum_cons, cast_sum r, List.sum_cons, Int.natCast_add]
theorem take_next {α : Type} {l : List α} {i : Nat} {x : α} (h : l[i]? = some x) : l.take (i + 1) = l.take i ++ [x] := by
  rw [List.take_add_one, h]
  rfl
theorem same_upd {H H' : Hp} {D : Addr} {o : HO} (s : Same H H') (n : H D = none) : Same H (upd H' D o) := fun b u e => by
  rw [upd_ne (ne_of_none e n)]
  exact s b u e
end Hr
namespace Hr
open PySem PySem.Spec PyProof.Rows L2
theorem tand_pure {c d : Bool} {u : TT} {σ : L2.St} {H : Hp} {Q : Bool → Hp → Prop} (h : ∀ Q' : Bool → Hp → Prop, Q' d H → u σ H Q') (q : Q (c && d) H) : if c = true then u σ H Q else Q false H := by
  cases c
  · exact iteF q
  · exact iteT (h Q q)
theorem tor_pure {c d : Bool} {u : TT} {σ : L2.St} {H : Hp} {Q : Bool → Hp → Prop} (h : ∀ Q' : Bool → Hp → Prop, Q' d H → u σ H Q') (q : Q (c || d) H) : if c = true then Q true H else u σ H Q := by
  cases c
  · exact iteF (h Q q)
  · exact iteT q
end Hr

namespace Hr
open PySem PySem.Spec PyProof.Rows L2
def topS (i : Nat) : Stmt := PySem.Challenge.pw_halfrows_s01_arith.main.body.getD i (.Pass ⟨0, 0, 0, 0⟩)
abbrev s_is_negative : Stmt := topS 13
theorem sc_is_negative : FnScope ["bits"] ["bits"] (defScope s_is_negative) := ⟨rfl, rfl, rfl, by decide +kernel, rfl, by decide +kernel, by decide +kernel⟩
def sp_is_negative : Sp := fun vs H Q _ => ∃ x : Nat, vs = [.int (x : Int)] ∧ x < 65536 ∧ Q (.bl (Sv03.minus x)) H
abbrev s_size_bits : Stmt := topS 14
theorem sc_size_bits : FnScope ["bits"] ["bits"] (defScope s_size_bits) := ⟨rfl, rfl, rfl, by decide +kernel, rfl, by decide +kernel, by decide +kernel⟩
def sp_size_bits : Sp := fun vs H Q _ => ∃ x : Nat, vs = [.int (x : Int)] ∧ Q (.int ((Sv03.mag x : Nat) : Int)) H
abbrev s_is_nan : Stmt := topS 15
theorem sc_is_nan : FnScope ["bits"] ["bits"] (defScope s_is_nan) := ⟨rfl, rfl, rfl, by decide +kernel, rfl, by decide +kernel, by decide +kernel⟩
def sp_is_nan : Sp := fun vs H Q _ => ∃ x : Nat, vs = [.int (x : Int)] ∧ Q (.bl (Sv03.isNan x)) H
abbrev s_is_infinite : Stmt := topS 16
theorem sc_is_infinite : FnScope ["bits"] ["bits"] (defScope s_is_infinite) := ⟨rfl, rfl, rfl, by decide +kernel, rfl, by decide +kernel, by decide +kernel⟩
def sp_is_infinite : Sp := fun vs H Q _ => ∃ x : Nat, vs = [.int (x : Int)] ∧ Q (.bl (Sv03.isInf x)) H
abbrev s_is_zero : Stmt := topS 17
theorem sc_is_zero : FnScope ["bits"] ["bits"] (defScope s_is_zero) := ⟨rfl, rfl, rfl, by decide +kernel, rfl, by decide +kernel, by decide +kernel⟩
def sp_is_zero : Sp := fun vs H Q _ => ∃ x : Nat, vs = [.int (x : Int)] ∧ Q (.bl (Sv03.isZero x)) H
abbrev s_units : Stmt := topS 18
theorem sc_units : FnScope ["bits", "size"] ["bits"] (defScope s_units) := ⟨rfl, rfl, rfl, by decide +kernel, rfl, by decide +kernel, by decide +kernel⟩
def sp_units : Sp := fun vs H Q _ => ∃ x : Nat, vs = [.int (x : Int)] ∧ Q (.int ((Sv03.units (Sv03.mag x) : Nat) : Int)) H
abbrev s_signed_units : Stmt := topS 19
theorem sc_signed_units : FnScope ["bits"] ["bits"] (defScope s_signed_units) := ⟨rfl, rfl, rfl, by decide +kernel, rfl, by decide +kernel, by decide +kernel⟩
def sp_signed_units : Sp := fun vs H Q _ => ∃ x : Nat, vs = [.int (x : Int)] ∧ x < 65536 ∧ Q (.int (Sv03.value x)) H
abbrev s_length_of : Stmt := topS 20
theorem sc_length_of : FnScope ["number", "found"] ["number"] (defScope s_length_of) := ⟨rfl, rfl, rfl, by decide +kernel, rfl, by decide +kernel, by decide +kernel⟩
def sp_length_of : Sp := fun vs H Q _ => ∃ n : Nat, vs = [.int (n : Int)] ∧ Q (.int ((len n : Nat) : Int)) H
abbrev s_size_of_units : Stmt := topS 21
theorem sc_size_of_units : FnScope ["many", "exponent"] ["many"] (defScope s_size_of_units) := ⟨rfl, rfl, rfl, by decide +kernel, rfl, by decide +kernel, by decide +kernel⟩
def sp_size_of_units : Sp := fun vs H Q _ => ∃ m : Nat, vs = [.int (m : Int)] ∧ m < 2 ^ 64 ∧ Q (.int ((sizeOf m : Nat) : Int)) H
abbrev s_with_sign : Stmt := topS 22
theorem sc_with_sign : FnScope ["size", "negative"] ["size", "negative"] (defScope s_with_sign) := ⟨rfl, rfl, rfl, by decide +kernel, rfl, by decide +kernel, by decide +kernel⟩
def sp_with_sign : Sp := fun vs H Q _ => ∃ (s : Nat) (b : Bool), vs = [.int (s : Int), .bl b] ∧ Q (.int ((Sv03.signed b s : Nat) : Int)) H
abbrev s_goes_up : Stmt := topS 23
theorem sc_goes_up : FnScope ["whole", "rest", "part", "negative", "mode"] ["whole", "rest", "part", "negative", "mode"] (defScope s_goes_up) := ⟨rfl, rfl, rfl, by decide +kernel, rfl, by decide +kernel, by decide +kernel⟩
def sp_goes_up : Sp := fun vs H Q _ => ∃ (w r p m : Nat) (b : Bool), vs = [.int (w : Int), .int (r : Int), .int (p : Int), .bl b, .int (m : Int)] ∧ r < 2 ^ 1000 ∧ Q (.bl (goesUp w r p b m)) H
abbrev s_rounded_whole : Stmt := topS 24
theorem sc_rounded_whole : FnScope ["top", "bottom", "negative", "mode", "whole", "rest"] ["top", "bottom", "negative", "mode"] (defScope s_rounded_whole) := ⟨rfl, rfl, rfl, by decide +kernel, rfl, by decide +kernel, by decide +kernel⟩
def sp_rounded_whole : Sp := fun vs H Q _ => ∃ (t d m : Nat) (b : Bool), vs = [.int (t : Int), .int (d : Int), .bl b, .int (m : Int)] ∧ t < 2 ^ 700 ∧ d < 2 ^ 700 ∧ 0 < d ∧ Q (.int ((rw t d b m : Nat) : Int)) H
abbrev s_beyond : Stmt := topS 25
theorem sc_beyond : FnScope ["negative", "mode"] ["negative", "mode"] (defScope s_beyond) := ⟨rfl, rfl, rfl, by decide +kernel, rfl, by decide +kernel, by decide +kernel⟩
def sp_beyond : Sp := fun vs H Q _ => ∃ (m : Nat) (b : Bool), vs = [.bl b, .int (m : Int)] ∧ Q (.int ((beyond b m : Nat) : Int)) H
abbrev s_rounded : Stmt := topS 26
theorem sc_rounded : FnScope ["top", "bottom", "negative", "mode", "step", "many"] ["top", "bottom", "negative", "mode"] (defScope s_rounded) := ⟨rfl, rfl, rfl, by decide +kernel, rfl, by decide +kernel, by decide +kernel⟩
def sp_rounded : Sp := fun vs H Q _ => ∃ (t d m : Nat) (b : Bool), vs = [.int (t : Int), .int (d : Int), .bl b, .int (m : Int)] ∧ t < 2 ^ 300 ∧ 0 < d ∧ d < 2 ^ 200 ∧ m ≤ 3 ∧ Q (.int ((Sv03.ofFraction m b t d : Nat) : Int)) H
abbrev s_place_in_order : Stmt := topS 27
theorem sc_place_in_order : FnScope ["bits", "size"] ["bits"] (defScope s_place_in_order) := ⟨rfl, rfl, rfl, by decide +kernel, rfl, by decide +kernel, by decide +kernel⟩
def sp_place_in_order : Sp := fun vs H Q _ => ∃ x : Nat, vs = [.int (x : Int)] ∧ x < 65536 ∧ ∀ p, H p = none → Q (.ref p) (upd H p (.tup ((place x).map V.int)))
abbrev s_zero_sum : Stmt := topS 31
theorem sc_zero_sum : FnScope ["first", "second", "mode"] ["first", "second", "mode"] (defScope s_zero_sum) := ⟨rfl, rfl, rfl, by decide +kernel, rfl, by decide +kernel, by decide +kernel⟩
def sp_zero_sum : Sp := fun vs H Q _ => ∃ (s t : Bool) (m : Nat), vs = [.bl s, .bl t, .int (m : Int)] ∧ Q (.int ((Sv03.signed (Sv03.zeroSign m s t) 0 : Nat) : Int)) H
abbrev s_signed_half : Stmt := topS 32
theorem sc_signed_half : FnScope ["number", "bottom", "mode"] ["number", "bottom", "mode"] (defScope s_signed_half) := ⟨rfl, rfl, rfl, by decide +kernel, rfl, by decide +kernel, by decide +kernel⟩
def sp_signed_half : Sp := fun vs H Q _ => ∃ (i : Int) (d m : Nat), vs = [.int i, .int (d : Int), .int (m : Int)] ∧ i.natAbs < 2 ^ 300 ∧ 0 < d ∧ d < 2 ^ 200 ∧ m ≤ 3 ∧ Q (.int ((Sv03.ofFraction m (decide (i < 0)) i.natAbs d : Nat) : Int)) H
abbrev s_added : Stmt := topS 33
theorem sc_added : FnScope ["x", "y", "mode", "total"] ["x", "y", "mode"] (defScope s_added) := ⟨rfl, rfl, rfl, by decide +kernel, rfl, by decide +kernel, by decide +kernel⟩
def sp_added : Sp := fun vs H Q _ => ∃ x y m : Nat, vs = [.int (x : Int), .int (y : Int), .int (m : Int)] ∧ x < 65536 ∧ y < 65536 ∧ Sv03.isNan x = false ∧ Sv03.isNan y = false ∧ m ≤ 3 ∧ Q (.int ((Sv03.sum m x y : Nat) : Int)) H
abbrev s_contrary : Stmt := topS 34
theorem sc_contrary : FnScope ["bits"] ["bits"] (defScope s_contrary) := ⟨rfl, rfl, rfl, by decide +kernel, rfl, by decide +kernel, by decide +kernel⟩
def sp_contrary : Sp := fun vs H Q _ => ∃ x : Nat, vs = [.int (x : Int)] ∧ x < 65536 ∧ Q (.int ((Sv03.opposite x : Nat) : Int)) H
abbrev s_is_product_negative : Stmt := topS 35
theorem sc_is_product_negative : FnScope ["x", "y"] ["x", "y"] (defScope s_is_product_negative) := ⟨rfl, rfl, rfl, by decide +kernel, rfl, by decide +kernel, by decide +kernel⟩
def sp_is_product_negative : Sp := fun vs H Q _ => ∃ x y : Nat, vs = [.int (x : Int), .int (y : Int)] ∧ x < 65536 ∧ y < 65536 ∧ Q (.bl (Sv03.minus x != Sv03.minus y)) H
abbrev s_has_no_product : Stmt := topS 36
theorem sc_has_no_product : FnScope ["x", "y"] ["x", "y"] (defScope s_has_no_product) := ⟨rfl, rfl, rfl, by decide +kernel, rfl, by decide +kernel, by decide +kernel⟩
def sp_has_no_product : Sp := fun vs H Q _ => ∃ x y : Nat, vs = [.int (x : Int), .int (y : Int)] ∧ Q (.bl ((Sv03.isInf x && Sv03.isZero y) || (Sv03.isZero x && Sv03.isInf y))) H
abbrev s_multiplied : Stmt := topS 37
theorem sc_multiplied : FnScope ["x", "y", "mode", "negative"] ["x", "y", "mode"] (defScope s_multiplied) := ⟨rfl, rfl, rfl, by decide +kernel, rfl, by decide +kernel, by decide +kernel⟩
def sp_multiplied : Sp := fun vs H Q _ => ∃ x y m : Nat, vs = [.int (x : Int), .int (y : Int), .int (m : Int)] ∧ x < 65536 ∧ y < 65536 ∧ Sv03.isNan x = false ∧ Sv03.isNan y = false ∧ m ≤ 3 ∧ Q (.int ((Sv03.product m x y : Nat) : Int)) H
abbrev s_divided : Stmt := topS 38
theorem sc_divided : FnScope ["x", "y", "mode", "negative"] ["x", "y", "mode"] (defScope s_divided) := ⟨rfl, rfl, rfl, by decide +kernel, rfl, by decide +kernel, by decide +kernel⟩
def sp_divided : Sp := fun vs H Q _ => ∃ x y m : Nat, vs = [.int (x : Int), .int (y : Int), .int (m : Int)] ∧ x < 65536 ∧ y < 65536 ∧ Sv03.isNan x = false ∧ Sv03.isNan y = false ∧ m ≤ 3 ∧ Q (.int ((Sv03.quotient m x y : Nat) : Int)) H
abbrev s_whole_root : Stmt := topS 39
theorem sc_whole_root : FnScope ["number", "found", "place", "more"] ["number"] (defScope s_whole_root) := ⟨rfl, rfl, rfl, by decide +kernel, rfl, by decide +kernel, by decide +kernel⟩
theorem intBits_len (n : Nat) : Builtin.Int.intBits (n : Int) = len n := by
  unfold Builtin.Int.intBits len
  by_cases h : n = 0
  · subst h
    rfl
  · rw [if_neg h, if_neg (by simpa using h)]
    rfl
def sp_whole_root : Sp := fun vs H Q _ => ∃ n : Nat, vs = [.int (n : Int)] ∧ n < 2 ^ 100 ∧ ∀ r : Nat, r * r ≤ n → n < (r + 1) * (r + 1) → Q (.int (r : Int)) H
abbrev s_rooted : Stmt := topS 40
theorem sc_rooted : FnScope ["x", "mode", "square", "root"] ["x", "mode"] (defScope s_rooted) := ⟨rfl, rfl, rfl, by decide +kernel, rfl, by decide +kernel, by decide +kernel⟩
def sp_rooted : Sp := fun vs H Q _ => ∃ x m : Nat, vs = [.int (x : Int), .int (m : Int)] ∧ x < 65536 ∧ Sv03.isNan x = false ∧ m ≤ 3 ∧ Q (.int ((Sv03.root m x : Nat) : Int)) H
abbrev s_multiplied_and_added : Stmt := topS 41
theorem sc_multiplied_and_added : FnScope ["x", "y", "z", "mode", "negative", "total"] ["x", "y", "z", "mode"] (defScope s_multiplied_and_added) := ⟨rfl, rfl, rfl, by decide +kernel, rfl, by decide +kernel, by decide +kernel⟩
def sp_multiplied_and_added : Sp := fun vs H Q _ => ∃ x y z m : Nat, vs = [.int (x : Int), .int (y : Int), .int (z : Int), .int (m : Int)] ∧ x < 65536 ∧ y < 65536 ∧ z < 65536 ∧ Sv03.isNan x = false ∧ Sv03.isNan y = false ∧ Sv03.isNan z = false ∧ m ≤ 3 ∧
  Q (.int ((Sv03.fused m x y z : Nat) : Int)) H
abbrev s_operands_used : Stmt := topS 42
theorem sc_operands_used : FnScope ["op", "x", "y", "z"] ["op", "x", "y", "z"] (defScope s_operands_used) := ⟨rfl, rfl, rfl, by decide +kernel, rfl, by decide +kernel, by decide +kernel⟩
def sp_operands_used : Sp := fun vs H Q _ => ∃ o x y z : Nat, vs = [.int (o : Int), .int (x : Int), .int (y : Int), .int (z : Int)] ∧ ∀ p, H p = none → Q (.ref p) (upd H p (.lst ((used o x y z).map vN)))
abbrev s_computed : Stmt := topS 43
theorem sc_computed : FnScope ["op", "mode", "x", "y", "z", "bits"] ["op", "mode", "x", "y", "z"] (defScope s_computed) := ⟨rfl, rfl, rfl, by decide +kernel, rfl, by decide +kernel, by decide +kernel⟩
theorem lex_le (x y : Nat) : Ob.lexAt (fun j => decide ((place x).getD j 0 = (place y).getD j 0)) (fun j => decide ((place x).getD j 0 ≤ (place y).getD j 0)) (decide ((place x).length ≤ (place y).length)) 0 (min (place x).length (place y).length) = decide (Sv03.rank x ≤ Sv03.rank y) := by
  unfold place Sv03.rank
  cases Sv03.minus x <;> cases Sv03.minus y <;> simp [Ob.lexAt] <;> first | omega | (intros; omega) | (rw [Bool.eq_iff_iff]; simp; omega)
theorem used_len (o x y z : Nat) : (used o x y z).length ≤ 3 := by
  unfold used
  split
  · show 1 ≤ 3
    decide
  · split
    · show 3 ≤ 3
      decide
    · show 2 ≤ 3
      decide
def sp_computed : Sp := fun vs H Q _ => ∃ o m x y z : Nat, vs = [.int (o : Int), .int (m : Int), .int (x : Int), .int (y : Int), .int (z : Int)] ∧ o ≤ 7 ∧ m ≤ 3 ∧ x < 65536 ∧ y < 65536 ∧ z < 65536 ∧
  ∀ H', Same H H' → Q (.int ((Sv03.arith o m x y z : Nat) : Int)) H'
abbrev s_row_of : Stmt := topS 47
theorem sc_row_of : FnScope ["some"] ["some"] (defScope s_row_of) := ⟨rfl, rfl, rfl, by decide +kernel, rfl, by decide +kernel, by decide +kernel⟩
def sp_row_of (K : PySem.W.Frag) : Sp := fun vs H Q _ => ∃ (a : Addr) (l : List Nat), vs = [.ref a] ∧ SqL K H a (l.map vN) ∧ l.length ≤ 32 ∧
  ∀ H' p, Same H H' → H p = none → H' p = some (.lst ((Sv03.each (Sv03.at_ l)).map vN)) → Q (.ref p) H'
abbrev s_is_in : Stmt := topS 48
theorem sc_is_in : FnScope ["k", "lane"] ["k", "lane"] (defScope s_is_in) := ⟨rfl, rfl, rfl, by decide +kernel, rfl, by decide +kernel, by decide +kernel⟩
def sp_is_in : Sp := fun vs H Q _ => ∃ k i : Nat, vs = [.int (k : Int), .int (i : Int)] ∧ Q (.bl (k.testBit i)) H
abbrev s_is_mode : Stmt := topS 49
theorem sc_is_mode : FnScope ["mode"] ["mode"] (defScope s_is_mode) := ⟨rfl, rfl, rfl, by decide +kernel, rfl, by decide +kernel, by decide +kernel⟩
def sp_is_mode : Sp := fun vs H Q _ => ∃ m : Int, vs = [.int m] ∧ Q (.bl (Sv03.isMode m)) H
abbrev s_arith : Stmt := topS 50
theorem sc_arith : FnScope ["k", "op", "mode", "a", "b", "c", "found", "second", "third", "lane"] ["k", "op", "mode", "a", "b", "c"] (defScope s_arith) := ⟨rfl, rfl, rfl, by decide +kernel, rfl, by decide +kernel, by decide +kernel⟩
def sp_arith (K : PySem.W.Frag) : Sp := fun vs H Q _ => ∃ (k : Nat) (op mode : Int) (a b c : Addr) (l y z : List Nat), vs = [.int (k : Int), .int op, .int mode, .ref a, .ref b, .ref c] ∧ SqL K H a (l.map vN) ∧ l.length ≤ 32 ∧ (∀ n ∈ l, n < 65536) ∧ SqL K H b (y.map vN) ∧ y.length ≤ 32 ∧ (∀ n ∈ y, n < 65536) ∧
  SqL K H c (z.map vN) ∧ z.length ≤ 32 ∧ (∀ n ∈ z, n < 65536) ∧ ∀ H' r, H' r = some (.lst ((PySv03.arith k op mode (castN l) (castN y) (castN z)).map V.int)) → Q (.ref r) H'
section
variable {P : Program} {w : World} {K : PySem.W.Frag} {mg : Str → Option Value} {base : Heap} {aW : Addr}
theorem ok_is_negative (R : Raw K mg "is_negative" s_is_negative ["bits"]) (c_SIGN : Cst mg "SIGN" (.int 32768)) : Def P w K mg base 1 "is_negative" ["bits"] sp_is_negative := by
  obtain ⟨f, fd, F, b, m⟩ := R
  refine ⟨f, fd, F.ok sc_is_negative (fun vs H Q E h => ?_) (fun cdv A outer s H vs Q E hr h => ?_), b, F.kp, m, look F⟩
  · obtain ⟨x, rfl, hx, q⟩ := h
    rfl
  · obtain ⟨x, rfl, hx, q⟩ := h
    refine ⟨_, (pss_one (ps_ret (pe_cmpR op_geNN (pv 0) (pe_cst c_SIGN) (nomark _)))), ?_⟩
    rw [minus_is hx] at q
    exact ⟨_, rfl, x, 32768, rfl, rfl, q⟩
theorem ok_size_bits (R : Raw K mg "size_bits" s_size_bits ["bits"]) (c_SIGN : Cst mg "SIGN" (.int 32768)) : Def P w K mg base 1 "size_bits" ["bits"] sp_size_bits := by
  obtain ⟨f, fd, F, b, m⟩ := R
  refine ⟨f, fd, F.ok sc_size_bits (fun vs H Q E h => ?_) (fun cdv A outer s H vs Q E hr h => ?_), b, F.kp, m, look F⟩
  · obtain ⟨x, rfl, q⟩ := h
    rfl
  · obtain ⟨x, rfl, q⟩ := h
    refine ⟨_, (pss_one (ps_ret (pe_op op_modNN (pv 0) (pe_cst c_SIGN)))), ?_⟩
    exact ⟨_, rfl, x, 32768, rfl, rfl, by decide, q⟩
theorem ok_is_nan (R : Raw K mg "is_nan" s_is_nan ["bits"]) (d_size_bits : Def P w K mg base 1 "size_bits" ["bits"] sp_size_bits) (c_INFINITY : Cst mg "INFINITY" (.int 31744)) : Def P w K mg base 2 "is_nan" ["bits"] sp_is_nan := by
  obtain ⟨f, fd, F, b, m⟩ := R
  refine ⟨f, fd, F.ok sc_is_nan (fun vs H Q E h => ?_) (fun cdv A outer s H vs Q E hr h => ?_), b, F.kp, m, look F⟩
  · obtain ⟨x, rfl, q⟩ := h
    rfl
  · obtain ⟨x, rfl, q⟩ := h
    refine ⟨_, (pss_one (ps_ret (pe_cmpR op_gtNN (pe_def d_size_bits (hr.mono (by decide)) (pa_cons (pv 0) pa_nil)) (pe_cst c_INFINITY) (nomark _)))), ?_⟩
    exact ⟨_, rfl, x, rfl, _, 31744, rfl, rfl, q⟩
theorem ok_is_infinite (R : Raw K mg "is_infinite" s_is_infinite ["bits"]) (d_size_bits : Def P w K mg base 1 "size_bits" ["bits"] sp_size_bits) (c_INFINITY : Cst mg "INFINITY" (.int 31744)) : Def P w K mg base 2 "is_infinite" ["bits"] sp_is_infinite := by
  obtain ⟨f, fd, F, b, m⟩ := R
  refine ⟨f, fd, F.ok sc_is_infinite (fun vs H Q E h => ?_) (fun cdv A outer s H vs Q E hr h => ?_), b, F.kp, m, look F⟩
  · obtain ⟨x, rfl, q⟩ := h
    rfl
  · obtain ⟨x, rfl, q⟩ := h
    refine ⟨_, (pss_one (ps_ret (pe_cmpR op_eqNN (pe_def d_size_bits (hr.mono (by decide)) (pa_cons (pv 0) pa_nil)) (pe_cst c_INFINITY) (nomark _)))), ?_⟩
    rw [isInf_is] at q
    exact ⟨_, rfl, x, rfl, _, 31744, rfl, rfl, q⟩
theorem ok_is_zero (R : Raw K mg "is_zero" s_is_zero ["bits"]) (d_size_bits : Def P w K mg base 1 "size_bits" ["bits"] sp_size_bits) : Def P w K mg base 2 "is_zero" ["bits"] sp_is_zero := by
  obtain ⟨f, fd, F, b, m⟩ := R
  refine ⟨f, fd, F.ok sc_is_zero (fun vs H Q E h => ?_) (fun cdv A outer s H vs Q E hr h => ?_), b, F.kp, m, look F⟩
  · obtain ⟨x, rfl, q⟩ := h
    rfl
  · obtain ⟨x, rfl, q⟩ := h
    refine ⟨_, (pss_one (ps_ret (pe_cmpR op_eqNN (pe_def d_size_bits (hr.mono (by decide)) (pa_cons (pv 0) pa_nil)) pe_int (nomark _)))), ?_⟩
    rw [isZero_is] at q
    exact ⟨_, rfl, x, rfl, _, 0, rfl, rfl, q⟩
theorem ok_units (R : Raw K mg "units" s_units ["bits"]) (d_size_bits : Def P w K mg base 1 "size_bits" ["bits"] sp_size_bits) (c_FRACTION : Cst mg "FRACTION" (.int 1024)) : Def P w K mg base 2 "units" ["bits"] sp_units := by
  obtain ⟨f, fd, F, b, m⟩ := R
  refine ⟨f, fd, F.ok sc_units (fun vs H Q E h => ?_) (fun cdv A outer s H vs Q E hr h => ?_), b, F.kp, m, look F⟩
  · obtain ⟨x, rfl, q⟩ := h
    rfl
  · obtain ⟨x, rfl, q⟩ := h
    refine ⟨_, (pss_cons (ps_set (i := 1) sc_units.nd rfl (Or.inl rfl) (pe_def d_size_bits (hr.mono (by decide)) (pa_cons (pv 0) pa_nil)))
      (pss_cons (ps_if (pt_cmpR op_ltNN (pv 1) (pe_cst c_FRACTION) (nomark _)) (pss_one (ps_ret (pv 1))) pss_nil)
      (pss_one (ps_ret (pe_op op_shlNN (pe_op L2.op_addN (pe_cst c_FRACTION) (pe_op op_modNN (pv 1) (pe_cst c_FRACTION))) (pe_op L2.op_subN (pe_op op_fdivNW (pv 1) (pe_cst c_FRACTION)) pe_int)))))), ?_⟩
    refine ⟨_, rfl, x, rfl, ?_⟩
    have hm := mag_lt x
    generalize Sv03.mag x = m at q hm ⊢
    refine ⟨_, rfl, m, 1024, rfl, rfl, _, rfl, ite2 (fun e => ?_) (fun e => ?_)⟩
    · rw [units_small (of_decide_eq_true e)] at q
      exact ⟨_, rfl, q⟩
    · have c : ¬ m < 1024 := fun z => e (decide_eq_true z)
      rw [← units_is c] at q
      have b := Nat.mod_lt m (show 0 < 1024 by decide)
      refine ⟨_, rfl, m, 1024, rfl, rfl, by decide, 1024, _, rfl, rfl, _, rfl, m, 1024, 11, rfl, rfl, ⟨by decide, by decide, by decide, by decide⟩, m / 1024, 1, rfl, rfl, by omega, _, _, 11, rfl, rfl, ⟨by omega, by omega⟩, ?_⟩
      exact q
theorem ok_signed_units (R : Raw K mg "signed_units" s_signed_units ["bits"]) (d_units : Def P w K mg base 2 "units" ["bits"] sp_units) (d_is_negative : Def P w K mg base 1 "is_negative" ["bits"] sp_is_negative) : Def P w K mg base 3 "signed_units" ["bits"] sp_signed_units := by
  obtain ⟨f, fd, F, b, m⟩ := R
  refine ⟨f, fd, F.ok sc_signed_units (fun vs H Q E h => ?_) (fun cdv A outer s H vs Q E hr h => ?_), b, F.kp, m, look F⟩
  · obtain ⟨x, rfl, hx, q⟩ := h
    rfl
  · obtain ⟨x, rfl, hx, q⟩ := h
    refine ⟨_, (pss_cons (ps_if (pt_val (pe_def d_is_negative (hr.mono (by decide)) (pa_cons (pv 0) pa_nil))) (pss_one (ps_ret (pe_un un_neg (pe_def d_units (hr.mono (by decide)) (pa_cons (pv 0) pa_nil))))) pss_nil)
      (pss_one (ps_ret (pe_def d_units (hr.mono (by decide)) (pa_cons (pv 0) pa_nil))))), ?_⟩
    unfold Sv03.value at q
    refine ⟨_, rfl, x, rfl, hx, _, rfl, ite2 (fun e => ?_) (fun e => ?_)⟩
    · rw [if_pos e] at q
      exact ⟨_, rfl, x, rfl, _, rfl, q⟩
    · rw [if_neg e] at q
      exact ⟨_, rfl, x, rfl, q⟩
theorem ok_length_of (R : Raw K mg "length_of" s_length_of ["number"]) : Def P w K mg base 1 "length_of" ["number"] sp_length_of := by
  obtain ⟨f, fd, F, b, m⟩ := R
  refine ⟨f, fd, F.ok sc_length_of (fun vs H Q E h => ?_) (fun cdv A outer s H vs Q E hr h => ?_), b, F.kp, m, look F⟩
  · obtain ⟨n, rfl, q⟩ := h
    rfl
  · obtain ⟨n, rfl, q⟩ := h
    refine ⟨_, (pss_cons (ps_set (i := 1) sc_length_of.nd rfl (Or.inl rfl) pe_int)
      (pss_cons (ps_while PassesOwn.never (pt_cmpR op_gtNN (pe_op op_shrNN (pv 0) (pv 1)) pe_int (nomark _)) (pss_one (ps_aug (i := 1) sc_length_of.nd rfl (Or.inl rfl) pe_int ip_add)))
      (pss_one (ps_ret (pv 1))))), ?_⟩
    refine ⟨fun m σ H1 => ∃ i : Nat, σ = [some (.int (n : Int)), some (.int (i : Int))] ∧ i ≤ len n ∧ m = len n - i ∧ H1 = H, ⟨len n, 0, rfl, Nat.zero_le _, rfl, rfl⟩, ?_⟩
    rintro m σ H1 ⟨i, rfl, hi, rfl, rfl⟩
    refine ⟨_, rfl, _, rfl, n, i, rfl, rfl, n / 2 ^ i, 0, rfl, rfl, _, rfl, ite2 (fun e => ?_) (fun e => ?_)⟩
    · have lt : i < len n := (shift_pos n i).mp (of_decide_eq_true e)
      exact ⟨fun σ2 H2 => σ2 = [some (.int (n : Int)), some (.int ((i + 1 : Nat) : Int))] ∧ H2 = H1, fun σ2 H2 z => ⟨len n - (i + 1), by omega, i + 1, z.1, by omega, rfl, z.2⟩, _, rfl, (i : Int), 1, rfl, rfl, rfl, rfl⟩
    · have : ¬ i < len n := fun z => e (decide_eq_true ((shift_pos n i).mpr z))
      have e2 : i = len n := by omega
      subst e2
      exact ⟨_, rfl, q⟩
theorem ok_size_of_units (R : Raw K mg "size_of_units" s_size_of_units ["many"]) (d_length_of : Def P w K mg base 1 "length_of" ["number"] sp_length_of) (c_FRACTION : Cst mg "FRACTION" (.int 1024)) (c_PRECISION : Cst mg "PRECISION" (.int 11)) : Def P w K mg base 2 "size_of_units" ["many"] sp_size_of_units := by
  obtain ⟨f, fd, F, b, m⟩ := R
  refine ⟨f, fd, F.ok sc_size_of_units (fun vs H Q E h => ?_) (fun cdv A outer s H vs Q E hr h => ?_), b, F.kp, m, look F⟩
  · obtain ⟨m, rfl, hm, q⟩ := h
    rfl
  · obtain ⟨m, rfl, hm, q⟩ := h
    refine ⟨_, (pss_cons (ps_if (pt_cmpR op_ltNN (pv 0) (pe_cst c_FRACTION) (nomark _)) (pss_one (ps_ret (pv 0))) pss_nil)
      (pss_cons (ps_set (i := 1) sc_size_of_units.nd rfl (Or.inl rfl) (pe_op L2.op_addN (pe_op L2.op_subN (pe_def d_length_of (hr.mono (by decide)) (pa_cons (pv 0) pa_nil)) (pe_cst c_PRECISION)) pe_int))
      (pss_one (ps_ret (pe_op L2.op_subN (pe_op L2.op_addN (pe_op op_mulNW (pv 1) (pe_cst c_FRACTION)) (pe_op op_shrNN (pv 0) (pe_op L2.op_subN (pv 1) pe_int))) (pe_cst c_FRACTION)))))), ?_⟩
    refine ⟨_, rfl, m, 1024, rfl, rfl, _, rfl, ite2 (fun e => ?_) (fun e => ?_)⟩
    · have e2 : sizeOf m = m := if_pos (of_decide_eq_true e)
      rw [e2] at q
      exact ⟨_, rfl, q⟩
    · have c : ¬ m < 1024 := fun z => e (decide_eq_true z)
      have l := len_eleven c
      have l2 := len_le_of_lt hm
      rw [← sizeOf_is c] at q
      have p : 1024 ≤ (len m - 11 + 1) * 1024 := by omega
      have p2 : 1024 ≤ (len m - 11 + 1) * 1024 + m / 2 ^ (len m - 11 + 1 - 1) := Nat.le_trans p (Nat.le_add_right _ _)
      refine ⟨_, rfl, m, rfl, len m, 11, rfl, rfl, l, len m - 11, 1, rfl, rfl, ?_⟩
      refine ⟨_, rfl, len m - 11 + 1, 1024, 64, 11, rfl, rfl, ⟨by omega, by decide, by decide, by decide, by decide⟩, _, rfl, _, rfl, len m - 11 + 1, 1, rfl, rfl, by omega, m, len m - 11 + 1 - 1, rfl, rfl, _, _, rfl, rfl, _, 1024, rfl, rfl, p2, ?_⟩
      exact q
theorem ok_with_sign (R : Raw K mg "with_sign" s_with_sign ["size", "negative"]) (c_SIGN : Cst mg "SIGN" (.int 32768)) (z_int : mg "int" = none) : Def P w K mg base 1 "with_sign" ["size", "negative"] sp_with_sign := by
  obtain ⟨f, fd, F, b, m⟩ := R
  refine ⟨f, fd, F.ok sc_with_sign (fun vs H Q E h => ?_) (fun cdv A outer s H vs Q E hr h => ?_), b, F.kp, m, look F⟩
  · obtain ⟨s, b, rfl, q⟩ := h
    rfl
  · obtain ⟨s, b, rfl, q⟩ := h
    refine ⟨_, (pss_one (ps_ret (pe_op L2.op_addN (pv 0) (pe_op op_mulNW (pe_cst c_SIGN) (pe_callTy call_intB (by rfl) z_int (by decide +kernel) (pa_cons (pv 1) pa_nil)))))), ?_⟩
    rw [← signed_is] at q
    exact ⟨_, rfl, _, rfl, b, rfl, 32768, _, 16, 1, rfl, rfl, ⟨by decide, Bool.toNat_lt _, by decide, by decide, by decide⟩, s, _, rfl, rfl, q⟩
theorem ok_goes_up (R : Raw K mg "goes_up" s_goes_up ["whole", "rest", "part", "negative", "mode"]) (c_UP : Cst mg "UP" (.int 2)) (c_DOWN : Cst mg "DOWN" (.int 1)) (c_NEAREST : Cst mg "NEAREST" (.int 0)) : Def P w K mg base 1 "goes_up" ["whole", "rest", "part", "negative", "mode"] sp_goes_up := by
  obtain ⟨f, fd, F, b, m⟩ := R
  refine ⟨f, fd, F.ok sc_goes_up (fun vs H Q E h => ?_) (fun cdv A outer s H vs Q E hr h => ?_), b, F.kp, m, look F⟩
  · obtain ⟨w, r, p, m, b, rfl, hr2, q⟩ := h
    rfl
  · obtain ⟨w, r, p, m, b, rfl, hr2, q⟩ := h
    refine ⟨_, (pss_cons (ps_if (pt_cmpR op_eqNN (pv 4) (pe_cst c_NEAREST) (nomark _)) (pss_one (ps_ret (pe_or (pe_cmpR op_gtNN (pe_op op_mulNW pe_int (pv 1)) (pv 2) (nomark _)) (pe_one (pe_and (pe_cmpR op_eqNN (pe_op op_mulNW pe_int (pv 1)) (pv 2) (nomark _)) (pe_one (pe_cmpR op_eqNN (pe_op op_modNN (pv 0) pe_int) pe_int (nomark _)))))))) pss_nil)
      (pss_cons (ps_if (pt_cmpR op_eqNN (pv 4) (pe_cst c_DOWN) (nomark _)) (pss_one (ps_ret (pe_and (pe_cmpR op_gtNN (pv 1) pe_int (nomark _)) (pe_one (pv 3))))) pss_nil)
      (pss_one (ps_ret (pe_and (pe_cmpR op_eqNN (pv 4) (pe_cst c_UP) (nomark _)) (pe_and (pe_cmpR op_gtNN (pv 1) pe_int (nomark _)) (pe_one (pe_not (pv 3))))))))), ?_⟩
    unfold goesUp at q
    refine ⟨_, rfl, m, 0, rfl, rfl, _, rfl, ite2 (fun e => ?_) (fun e => ?_)⟩
    · rw [if_pos (of_decide_eq_true e)] at q
      refine ⟨_, rfl, 2, r, 2, 1000, rfl, rfl, ⟨by decide, hr2, by decide, by decide, by decide⟩, _, rfl, _, p, rfl, rfl, _, rfl, ite2 (fun e1 => ?_) (fun e1 => ?_)⟩
      · rw [e1, Bool.true_or] at q
        exact q
      · rw [Bool.eq_false_iff.mpr e1, Bool.false_or] at q
        refine ⟨_, rfl, 2, r, 2, 1000, rfl, rfl, ⟨by decide, hr2, by decide, by decide, by decide⟩, _, rfl, _, p, rfl, rfl, _, rfl, ite2 (fun e2 => ?_) (fun e2 => ?_)⟩
        · rw [e2, Bool.true_and] at q
          exact ⟨_, rfl, w, 2, rfl, rfl, by decide, _, 1, rfl, rfl, q⟩
        · rw [Bool.eq_false_iff.mpr e2, Bool.false_and] at q
          exact q
    · rw [if_neg (fun z => e (decide_eq_true z))] at q
      refine ⟨_, rfl, m, 1, rfl, rfl, _, rfl, ite2 (fun e1 => ?_) (fun e1 => ?_)⟩
      · rw [if_pos (of_decide_eq_true e1)] at q
        refine ⟨_, rfl, r, 0, rfl, rfl, _, rfl, ite2 (fun e2 => ?_) (fun e2 => ?_)⟩
        · rw [e2, Bool.true_and] at q
          exact ⟨_, rfl, q⟩
        · rw [Bool.eq_false_iff.mpr e2, Bool.false_and] at q
          exact q
      · rw [if_neg (fun z => e1 (decide_eq_true z))] at q
        refine ⟨_, rfl, m, 2, rfl, rfl, _, rfl, ite2 (fun e2 => ?_) (fun e2 => ?_)⟩
        · rw [e2, Bool.true_and] at q
          refine ⟨_, rfl, r, 0, rfl, rfl, _, rfl, ite2 (fun e3 => ?_) (fun e3 => ?_)⟩
          · rw [e3, Bool.true_and] at q
            exact ⟨_, rfl, _, rfl, q⟩
          · rw [Bool.eq_false_iff.mpr e3, Bool.false_and] at q
            exact q
        · rw [Bool.eq_false_iff.mpr e2, Bool.false_and] at q
          exact q
theorem ok_rounded_whole (R : Raw K mg "rounded_whole" s_rounded_whole ["top", "bottom", "negative", "mode"]) (d_goes_up : Def P w K mg base 1 "goes_up" ["whole", "rest", "part", "negative", "mode"] sp_goes_up) (z_int : mg "int" = none) : Def P w K mg base 2 "rounded_whole" ["top", "bottom", "negative", "mode"] sp_rounded_whole := by
  obtain ⟨f, fd, F, b, m⟩ := R
  refine ⟨f, fd, F.ok sc_rounded_whole (fun vs H Q E h => ?_) (fun cdv A outer s H vs Q E hr h => ?_), b, F.kp, m, look F⟩
  · obtain ⟨t, d, m, b, rfl, ht, hd, hd0, q⟩ := h
    rfl
  · obtain ⟨t, d, m, b, rfl, ht, hd, hd0, q⟩ := h
    refine ⟨_, (pss_cons (ps_set (i := 4) sc_rounded_whole.nd rfl (Or.inl rfl) (pe_op op_fdivNW (pv 0) (pv 1)))
      (pss_cons (ps_set (i := 5) sc_rounded_whole.nd rfl (Or.inl rfl) (pe_op L2.op_subN (pv 0) (pe_op op_mulNW (pv 4) (pv 1))))
      (pss_one (ps_ret (pe_op L2.op_addN (pv 4) (pe_callTy call_intB (by rfl) z_int (by decide +kernel) (pa_cons (pe_def d_goes_up (hr.mono (by decide)) (pa_cons (pv 4) (pa_cons (pv 5) (pa_cons (pv 1) (pa_cons (pv 2) (pa_cons (pv 3) pa_nil)))))) pa_nil))))))), ?_⟩
    have l1 : t / d < 2 ^ 700 := Nat.lt_of_le_of_lt (Nat.div_le_self _ _) ht
    have l2 : t / d * d ≤ t := Nat.div_mul_le_self _ _
    have l3 : t - t / d * d < 2 ^ 1000 := Nat.lt_of_le_of_lt (Nat.sub_le _ _) (Nat.lt_of_lt_of_le ht (pow_le_pow (by decide)))
    unfold rw at q
    rw [up_toNat] at q
    refine ⟨_, rfl, _, rfl, t, d, 700, rfl, rfl, ⟨hd0, hd, by decide, by decide⟩, ?_⟩
    refine ⟨_, rfl, _, rfl, _, rfl, t / d, d, 700, 700, rfl, rfl, ⟨l1, hd, by decide, by decide, by decide⟩, t, _, rfl, rfl, l2, ?_⟩
    refine ⟨_, rfl, _, rfl, _, rfl, _, rfl, _, rfl, _, rfl, t / d, _, d, m, b, rfl, l3, ?_⟩
    exact ⟨_, rfl, _, _, rfl, rfl, q⟩
theorem ok_beyond (R : Raw K mg "beyond" s_beyond ["negative", "mode"]) (d_with_sign : Def P w K mg base 1 "with_sign" ["size", "negative"] sp_with_sign) (c_LARGEST : Cst mg "LARGEST" (.int 31743)) (c_UP : Cst mg "UP" (.int 2)) (c_DOWN : Cst mg "DOWN" (.int 1)) (c_NEAREST : Cst mg "NEAREST" (.int 0)) (c_INFINITY : Cst mg "INFINITY" (.int 31744)) : Def P w K mg base 2 "beyond" ["negative", "mode"] sp_beyond := by
  obtain ⟨f, fd, F, b, m⟩ := R
  refine ⟨f, fd, F.ok sc_beyond (fun vs H Q E h => ?_) (fun cdv A outer s H vs Q E hr h => ?_), b, F.kp, m, look F⟩
  · obtain ⟨m, b, rfl, q⟩ := h
    rfl
  · obtain ⟨m, b, rfl, q⟩ := h
    refine ⟨_, (pss_cons (ps_if (PW.pt (pw_or (pt_cmpR op_eqNN (pv 1) (pe_cst c_NEAREST) (nomark _)) (pw_or (PW.pt (pw_and (pt_cmpR op_eqNN (pv 1) (pe_cst c_DOWN) (nomark _)) (pw_and1 (pt_val (pv 0))))) (pw_or1 (PW.pt (pw_and (pt_cmpR op_eqNN (pv 1) (pe_cst c_UP) (nomark _)) (pw_and1 (pt_not (pt_val (pv 0)))))))))) (pss_one (ps_ret (pe_def d_with_sign (hr.mono (by decide)) (pa_cons (pe_cst c_INFINITY) (pa_cons (pv 0) pa_nil))))) pss_nil)
      (pss_one (ps_ret (pe_def d_with_sign (hr.mono (by decide)) (pa_cons (pe_cst c_LARGEST) (pa_cons (pv 0) pa_nil)))))), ?_⟩
    unfold beyond pastIt at q
    refine ⟨_, rfl, m, 0, rfl, rfl, _, rfl, ite2 (fun e => ?_) (fun e => ?_)⟩
    · rw [e, Bool.true_or, if_pos rfl] at q
      exact iteT ⟨_, rfl, 31744, b, rfl, q⟩
    rw [Bool.eq_false_iff.mpr e, Bool.false_or] at q
    refine ⟨_, rfl, m, 1, rfl, rfl, _, rfl, ite2 (fun e1 => ?_) (fun e1 => ?_)⟩
    · have e2 : decide (m = 2) = false := decide_eq_false (by have := of_decide_eq_true e1; omega)
      rw [e1, e2, Bool.true_and, Bool.false_and, Bool.or_false] at q
      refine ⟨_, rfl, b, rfl, ite2 (fun eb => ?_) (fun eb => ?_)⟩
      · rw [if_pos eb] at q
        exact iteT ⟨_, rfl, 31744, b, rfl, q⟩
      · rw [if_neg eb] at q
        exact ⟨_, rfl, m, 2, rfl, rfl, _, rfl, ite2 (fun z => absurd z (by rw [e2]; exact Bool.false_ne_true)) (fun _ => iteF ⟨_, rfl, 31743, b, rfl, q⟩)⟩
    · rw [Bool.eq_false_iff.mpr e1, Bool.false_and, Bool.false_or] at q
      refine iteF ⟨_, rfl, m, 2, rfl, rfl, _, rfl, ite2 (fun e2 => ?_) (fun e2 => ?_)⟩
      · rw [e2, Bool.true_and] at q
        refine ⟨_, rfl, b, rfl, ite2 (fun eb => ?_) (fun eb => ?_)⟩
        · rw [if_pos eb] at q
          exact ⟨_, rfl, 31744, b, rfl, q⟩
        · rw [if_neg eb] at q
          exact ⟨_, rfl, 31743, b, rfl, q⟩
      · rw [Bool.eq_false_iff.mpr e2, Bool.false_and, if_neg Bool.false_ne_true] at q
        exact iteF ⟨_, rfl, 31743, b, rfl, q⟩
theorem ok_rounded (R : Raw K mg "rounded" s_rounded ["top", "bottom", "negative", "mode"]) (d_with_sign : Def P w K mg base 1 "with_sign" ["size", "negative"] sp_with_sign) (d_size_of_units : Def P w K mg base 2 "size_of_units" ["many"] sp_size_of_units) (d_beyond : Def P w K mg base 2 "beyond" ["negative", "mode"] sp_beyond) (d_rounded_whole : Def P w K mg base 2 "rounded_whole" ["top", "bottom", "negative", "mode"] sp_rounded_whole) (d_length_of : Def P w K mg base 1 "length_of" ["number"] sp_length_of) (c_MOST_UNITS : Cst mg "MOST_UNITS" (.int 1098974756864)) (c_PRECISION : Cst mg "PRECISION" (.int 11)) (z_max : mg "max" = none) : Def P w K mg base 3 "rounded" ["top", "bottom", "negative", "mode"] sp_rounded := by
  obtain ⟨f, fd, F, b, m⟩ := R
  refine ⟨f, fd, F.ok sc_rounded (fun vs H Q E h => ?_) (fun cdv A outer s H vs Q E hr h => ?_), b, F.kp, m, look F⟩
  · obtain ⟨t, d, m, b, rfl, ht, hd0, hd, hm, q⟩ := h
    rfl
  · obtain ⟨t, d, m, b, rfl, ht, hd0, hd, hm, q⟩ := h
    refine ⟨_, (pss_cons (ps_set (i := 4) sc_rounded.nd rfl (Or.inl rfl) (pe_op op_oneNN pe_int (pe_callB (call_maxSub rfl) (by rfl) z_max (by decide +kernel) (pa_cons pe_int (pa_cons (pe_op op_sub (pe_def d_length_of (hr.mono (by decide)) (pa_cons (pe_op op_fdivNW (pv 0) (pv 1)) pa_nil)) (pe_cst c_PRECISION)) pa_nil)))))
      (pss_cons (ps_set (i := 5) sc_rounded.nd rfl (Or.inl rfl) (pe_op op_mulNW (pe_def d_rounded_whole (hr.mono (by decide)) (pa_cons (pv 0) (pa_cons (pe_op op_mulNW (pv 1) (pv 4)) (pa_cons (pv 2) (pa_cons (pv 3) pa_nil))))) (pv 4)))
      (pss_cons (ps_if (pt_cmpR op_gtNN (pv 5) (pe_cst c_MOST_UNITS) (nomark _)) (pss_one (ps_ret (pe_def d_beyond (hr.mono (by decide)) (pa_cons (pv 2) (pa_cons (pv 3) pa_nil))))) pss_nil)
      (pss_one (ps_ret (pe_def d_with_sign (hr.mono (by decide)) (pa_cons (pe_def d_size_of_units (hr.mono (by decide)) (pa_cons (pv 5) pa_nil)) (pa_cons (pv 2) pa_nil)))))))), ?_⟩
    rw [← rounded_eq hd0 b hm] at q
    unfold roundedP finish at q
    have l0 : t / d < 2 ^ 300 := Nat.lt_of_le_of_lt (Nat.div_le_self _ _) ht
    have l1 : len (t / d) ≤ 300 := len_le_of_lt l0
    refine ⟨_, rfl, _, rfl, t, d, 200, rfl, rfl, ⟨hd0, hd, by decide, by decide⟩, t / d, rfl, (len (t / d) : Int), 11, rfl, rfl, len (t / d), 11, rfl, len (t / d) - 11, rfl, rfl, by omega, ?_⟩
    have hp := pow_pos (len (t / d) - 11)
    have l2 : 2 ^ (len (t / d) - 11) < 2 ^ 300 := Nat.pow_lt_pow_right (by decide) (by omega)
    generalize 2 ^ (len (t / d) - 11) = s at q hp l2 ⊢
    have l3 : d * s < 2 ^ 700 := by
      refine Nat.lt_of_lt_of_le (Nat.mul_lt_mul'' hd l2) ?_
      rw [← Nat.pow_add]
      exact pow_le_pow (by decide)
    have l4 : rw t (d * s) b m < 2 ^ 701 := by
      have a : t / (d * s) ≤ t := Nat.div_le_self _ _
      have c : up (t / (d * s)) (t - t / (d * s) * (d * s)) (d * s) b m ≤ 1 := by
        rw [up_toNat]
        exact Nat.le_of_lt_succ (Bool.toNat_lt _)
      unfold rw
      have z : 2 ^ 300 + 1 ≤ 2 ^ 701 := Nat.le_trans (show 2 ^ 300 + 1 ≤ 2 ^ 301 by decide) (pow_le_pow (by decide))
      omega
    refine ⟨_, rfl, _, rfl, _, rfl, d, s, 200, 300, rfl, rfl, ⟨hd, l2, by decide, by decide, by decide⟩, _, rfl, _, rfl, t, d * s, m, b, rfl, Nat.lt_of_lt_of_le ht (pow_le_pow (by decide)), l3, Nat.mul_pos hd0 hp, _, rfl, _, s, 701, 300, rfl, rfl, ⟨l4, l2, by decide, by decide, by decide⟩, ?_⟩
    generalize rw t (d * s) b m * s = n at q ⊢
    refine ⟨_, rfl, n, 1098974756864, rfl, rfl, _, rfl, ite2 (fun e => ?_) (fun e => ?_)⟩
    · rw [if_pos (of_decide_eq_true e)] at q
      exact ⟨_, rfl, _, rfl, m, b, rfl, q⟩
    · have c : ¬ 2047 * 2 ^ 29 < n := fun z => e (decide_eq_true z)
      rw [if_neg c] at q
      exact ⟨_, rfl, n, rfl, by omega, _, rfl, _, b, rfl, q⟩
theorem ok_place_in_order (R : Raw K mg "place_in_order" s_place_in_order ["bits"]) (d_is_negative : Def P w K mg base 1 "is_negative" ["bits"] sp_is_negative) (d_size_bits : Def P w K mg base 1 "size_bits" ["bits"] sp_size_bits) : Def P w K mg base 2 "place_in_order" ["bits"] sp_place_in_order := by
  obtain ⟨f, fd, F, b, m⟩ := R
  refine ⟨f, fd, F.ok sc_place_in_order (fun vs H Q E h => ?_) (fun cdv A outer s H vs Q E hr h => ?_), b, F.kp, m, look F⟩
  · obtain ⟨x, rfl, hx, q⟩ := h
    rfl
  · obtain ⟨x, rfl, hx, q⟩ := h
    refine ⟨_, (pss_cons (ps_set (i := 1) sc_place_in_order.nd rfl (Or.inl rfl) (pe_def d_size_bits (hr.mono (by decide)) (pa_cons (pv 0) pa_nil)))
      (pss_cons (ps_if (pt_val (pe_def d_is_negative (hr.mono (by decide)) (pa_cons (pv 0) pa_nil))) (pss_one (ps_ret (pe_tup (pa_cons (pe_un un_neg (pv 1)) (pa_cons pe_int pa_nil))))) pss_nil)
      (pss_one (ps_ret (pe_tup (pa_cons (pv 1) (pa_cons pe_int pa_nil))))))), ?_⟩
    unfold place at q
    refine ⟨_, rfl, x, rfl, ?_⟩
    refine ⟨_, rfl, x, rfl, hx, _, rfl, ite2 (fun e => ?_) (fun e => ?_)⟩
    · rw [if_pos e] at q
      exact ⟨_, rfl, _, rfl, by show 2 ≤ sizeLine; decide, fun p np => q p np⟩
    · rw [if_neg e] at q
      exact ⟨_, rfl, by show 2 ≤ sizeLine; decide, fun p np => q p np⟩
theorem ok_zero_sum (R : Raw K mg "zero_sum" s_zero_sum ["first", "second", "mode"]) (d_with_sign : Def P w K mg base 1 "with_sign" ["size", "negative"] sp_with_sign) (c_DOWN : Cst mg "DOWN" (.int 1)) : Def P w K mg base 2 "zero_sum" ["first", "second", "mode"] sp_zero_sum := by
  obtain ⟨f, fd, F, b, m⟩ := R
  refine ⟨f, fd, F.ok sc_zero_sum (fun vs H Q E h => ?_) (fun cdv A outer s H vs Q E hr h => ?_), b, F.kp, m, look F⟩
  · obtain ⟨s, t, m, rfl, q⟩ := h
    rfl
  · obtain ⟨s, t, m, rfl, q⟩ := h
    refine ⟨_, (pss_cons (ps_if (pt_cmpR op_eqBB (pv 0) (pv 1) (nomark _)) (pss_one (ps_ret (pe_def d_with_sign (hr.mono (by decide)) (pa_cons pe_int (pa_cons (pv 0) pa_nil))))) pss_nil)
      (pss_one (ps_ret (pe_def d_with_sign (hr.mono (by decide)) (pa_cons pe_int (pa_cons (pe_cmpR op_eqNN (pv 2) (pe_cst c_DOWN) (nomark _)) pa_nil)))))), ?_⟩
    rw [zeroSign_is] at q
    refine ⟨_, rfl, _, rfl, s, t, rfl, rfl, _, rfl, ite2 (fun e => ?_) (fun e => ?_)⟩
    · rw [if_pos e] at q
      exact ⟨_, rfl, 0, s, rfl, q⟩
    · rw [if_neg e] at q
      exact ⟨_, rfl, m, 1, rfl, rfl, 0, _, rfl, q⟩
theorem ok_signed_half (R : Raw K mg "signed_half" s_signed_half ["number", "bottom", "mode"]) (d_rounded : Def P w K mg base 3 "rounded" ["top", "bottom", "negative", "mode"] sp_rounded) (z_abs : mg "abs" = none) : Def P w K mg base 4 "signed_half" ["number", "bottom", "mode"] sp_signed_half := by
  obtain ⟨f, fd, F, b, m⟩ := R
  refine ⟨f, fd, F.ok sc_signed_half (fun vs H Q E h => ?_) (fun cdv A outer s H vs Q E hr h => ?_), b, F.kp, m, look F⟩
  · obtain ⟨i, d, m, rfl, hi, hd0, hd, hm, q⟩ := h
    rfl
  · obtain ⟨i, d, m, rfl, hi, hd0, hd, hm, q⟩ := h
    refine ⟨_, (pss_one (ps_ret (pe_def d_rounded (hr.mono (by decide)) (pa_cons (pe_callB call_absI (by rfl) z_abs (by decide +kernel) (pa_cons (pv 0) pa_nil)) (pa_cons (pv 1) (pa_cons (pe_cmpR op_lt (pv 0) pe_int (nomark _)) (pa_cons (pv 2) pa_nil))))))), ?_⟩
    exact ⟨_, rfl, i, rfl, _, rfl, _, rfl, i, 0, rfl, rfl, _, rfl, i.natAbs, d, m, decide (i < 0), rfl, hi, hd0, hd, hm, q⟩
theorem ok_added (R : Raw K mg "added" s_added ["x", "y", "mode"]) (d_signed_half : Def P w K mg base 4 "signed_half" ["number", "bottom", "mode"] sp_signed_half) (d_zero_sum : Def P w K mg base 2 "zero_sum" ["first", "second", "mode"] sp_zero_sum) (d_is_negative : Def P w K mg base 1 "is_negative" ["bits"] sp_is_negative) (d_signed_units : Def P w K mg base 3 "signed_units" ["bits"] sp_signed_units) (d_is_infinite : Def P w K mg base 2 "is_infinite" ["bits"] sp_is_infinite) (c_NAN : Cst mg "NAN" (.int 32256)) : Def P w K mg base 5 "added" ["x", "y", "mode"] sp_added := by
  obtain ⟨f, fd, F, b, m⟩ := R
  refine ⟨f, fd, F.ok sc_added (fun vs H Q E h => ?_) (fun cdv A outer s H vs Q E hr h => ?_), b, F.kp, m, look F⟩
  · obtain ⟨x, y, m, rfl, hx, hy, nx, ny, hm, q⟩ := h
    rfl
  · obtain ⟨x, y, m, rfl, hx, hy, nx, ny, hm, q⟩ := h
    refine ⟨_, (pss_cons (ps_if (PW.pt (pw_and (pt_val (pe_def d_is_infinite (hr.mono (by decide)) (pa_cons (pv 0) pa_nil))) (pw_and (pt_val (pe_def d_is_infinite (hr.mono (by decide)) (pa_cons (pv 1) pa_nil))) (pw_and1 (pt_cmpR op_neNN (pv 0) (pv 1) (nomark _)))))) (pss_one (ps_ret (pe_cst c_NAN))) pss_nil)
      (pss_cons (ps_if (pt_val (pe_def d_is_infinite (hr.mono (by decide)) (pa_cons (pv 0) pa_nil))) (pss_one (ps_ret (pv 0))) pss_nil)
      (pss_cons (ps_if (pt_val (pe_def d_is_infinite (hr.mono (by decide)) (pa_cons (pv 1) pa_nil))) (pss_one (ps_ret (pv 1))) pss_nil)
      (pss_cons (ps_set (i := 3) sc_added.nd rfl (Or.inl rfl) (pe_op op_add (pe_def d_signed_units (hr.mono (by decide)) (pa_cons (pv 0) pa_nil)) (pe_def d_signed_units (hr.mono (by decide)) (pa_cons (pv 1) pa_nil))))
      (pss_cons (ps_if (pt_cmpR op_eqII (pv 3) pe_int (nomark _)) (pss_one (ps_ret (pe_def d_zero_sum (hr.mono (by decide)) (pa_cons (pe_def d_is_negative (hr.mono (by decide)) (pa_cons (pv 0) pa_nil)) (pa_cons (pe_def d_is_negative (hr.mono (by decide)) (pa_cons (pv 1) pa_nil)) (pa_cons (pv 2) pa_nil)))))) pss_nil)
      (pss_one (ps_ret (pe_def d_signed_half (hr.mono (by decide)) (pa_cons (pv 3) (pa_cons pe_int (pa_cons (pv 2) pa_nil))))))))))), ?_⟩
    refine ⟨_, rfl, x, rfl, _, rfl, tand_pure (d := Sv03.isInf y && !decide (x = y)) (fun Q' k => ⟨_, rfl, y, rfl, _, rfl, tand_pure (d := !decide (x = y)) (fun Q2 k2 => ⟨_, rfl, _, rfl, x, y, rfl, rfl, _, rfl, k2⟩) k⟩) (ite2 (fun e => ?_) (fun e => ?_))⟩
    · rw [sum_nan hx hy e nx ny] at q
      exact q
    have e' := Bool.eq_false_iff.mpr e
    refine ⟨_, rfl, x, rfl, _, rfl, ite2 (fun ix => ?_) (fun ix => ?_)⟩
    · rw [sum_infx hx hy e' nx ny ix] at q
      exact ⟨_, rfl, q⟩
    have ix := Bool.eq_false_iff.mpr ix
    refine ⟨_, rfl, y, rfl, _, rfl, ite2 (fun iy => ?_) (fun iy => ?_)⟩
    · rw [sum_infy hy nx ny ix iy] at q
      exact ⟨_, rfl, q⟩
    rw [sum_fin nx ny ix (Bool.eq_false_iff.mpr iy)] at q
    have b1 := value_bound x
    have b2 := value_bound y
    refine ⟨_, rfl, x, rfl, hx, _, rfl, y, rfl, hy, _, _, rfl, rfl, ?_⟩
    refine ⟨_, rfl, Sv03.value x + Sv03.value y, 0, rfl, rfl, _, rfl, ite2 (fun e0 => ?_) (fun e0 => ?_)⟩
    · rw [ofInt_zero (of_decide_eq_true e0)] at q
      exact ⟨_, rfl, x, rfl, hx, _, rfl, y, rfl, hy, _, rfl, _, _, m, rfl, q⟩
    · rw [ofInt_ne (fun z => e0 (decide_eq_true z))] at q
      refine ⟨_, rfl, _, rfl, Sv03.value x + Sv03.value y, 1, m, rfl, Nat.lt_of_lt_of_le (show _ < 2 ^ 43 by omega) (pow_le_pow (by decide)), by decide, by decide, hm, q⟩
theorem ok_contrary (R : Raw K mg "contrary" s_contrary ["bits"]) (d_with_sign : Def P w K mg base 1 "with_sign" ["size", "negative"] sp_with_sign) (d_is_negative : Def P w K mg base 1 "is_negative" ["bits"] sp_is_negative) : Def P w K mg base 2 "contrary" ["bits"] sp_contrary := by
  obtain ⟨f, fd, F, b, m⟩ := R
  refine ⟨f, fd, F.ok sc_contrary (fun vs H Q E h => ?_) (fun cdv A outer s H vs Q E hr h => ?_), b, F.kp, m, look F⟩
  · obtain ⟨x, rfl, hx, q⟩ := h
    rfl
  · obtain ⟨x, rfl, hx, q⟩ := h
    refine ⟨_, (pss_one (ps_ret (pe_def d_with_sign (hr.mono (by decide)) (pa_cons (pe_op op_modNN (pv 0) pe_int) (pa_cons (pe_not (pe_def d_is_negative (hr.mono (by decide)) (pa_cons (pv 0) pa_nil))) pa_nil))))), ?_⟩
    exact ⟨_, rfl, x, 32768, rfl, rfl, by decide, _, rfl, x, rfl, hx, _, rfl, Sv03.mag x, !Sv03.minus x, rfl, q⟩
theorem ok_is_product_negative (R : Raw K mg "is_product_negative" s_is_product_negative ["x", "y"]) (d_is_negative : Def P w K mg base 1 "is_negative" ["bits"] sp_is_negative) : Def P w K mg base 2 "is_product_negative" ["x", "y"] sp_is_product_negative := by
  obtain ⟨f, fd, F, b, m⟩ := R
  refine ⟨f, fd, F.ok sc_is_product_negative (fun vs H Q E h => ?_) (fun cdv A outer s H vs Q E hr h => ?_), b, F.kp, m, look F⟩
  · obtain ⟨x, y, rfl, hx, hy, q⟩ := h
    rfl
  · obtain ⟨x, y, rfl, hx, hy, q⟩ := h
    refine ⟨_, (pss_one (ps_ret (pe_cmpR op_neBB (pe_def d_is_negative (hr.mono (by decide)) (pa_cons (pv 0) pa_nil)) (pe_def d_is_negative (hr.mono (by decide)) (pa_cons (pv 1) pa_nil)) (nomark _)))), ?_⟩
    exact ⟨_, rfl, x, rfl, hx, _, rfl, y, rfl, hy, _, _, rfl, rfl, q⟩
theorem ok_has_no_product (R : Raw K mg "has_no_product" s_has_no_product ["x", "y"]) (d_is_infinite : Def P w K mg base 2 "is_infinite" ["bits"] sp_is_infinite) (d_is_zero : Def P w K mg base 2 "is_zero" ["bits"] sp_is_zero) : Def P w K mg base 3 "has_no_product" ["x", "y"] sp_has_no_product := by
  obtain ⟨f, fd, F, b, m⟩ := R
  refine ⟨f, fd, F.ok sc_has_no_product (fun vs H Q E h => ?_) (fun cdv A outer s H vs Q E hr h => ?_), b, F.kp, m, look F⟩
  · obtain ⟨x, y, rfl, q⟩ := h
    rfl
  · obtain ⟨x, y, rfl, q⟩ := h
    refine ⟨_, (pss_one (ps_ret (pe_or (pe_and (pe_def d_is_infinite (hr.mono (by decide)) (pa_cons (pv 0) pa_nil)) (pe_one (pe_def d_is_zero (hr.mono (by decide)) (pa_cons (pv 1) pa_nil)))) (pe_one (pe_and (pe_def d_is_zero (hr.mono (by decide)) (pa_cons (pv 0) pa_nil)) (pe_one (pe_def d_is_infinite (hr.mono (by decide)) (pa_cons (pv 1) pa_nil)))))))), ?_⟩
    exact ⟨_, rfl, x, rfl, _, rfl, and_pure (d := Sv03.isZero y) (fun Q' k => ⟨_, rfl, y, rfl, k⟩) ⟨_, rfl, or_pure (d := Sv03.isZero x && Sv03.isInf y) (fun Q' k => ⟨_, rfl, x, rfl, _, rfl, and_pure (d := Sv03.isInf y) (fun Q2 k2 => ⟨_, rfl, y, rfl, k2⟩) k⟩) q⟩⟩
theorem ok_multiplied (R : Raw K mg "multiplied" s_multiplied ["x", "y", "mode"]) (d_rounded : Def P w K mg base 3 "rounded" ["top", "bottom", "negative", "mode"] sp_rounded) (d_units : Def P w K mg base 2 "units" ["bits"] sp_units) (d_is_infinite : Def P w K mg base 2 "is_infinite" ["bits"] sp_is_infinite) (d_with_sign : Def P w K mg base 1 "with_sign" ["size", "negative"] sp_with_sign) (d_has_no_product : Def P w K mg base 3 "has_no_product" ["x", "y"] sp_has_no_product) (d_is_product_negative : Def P w K mg base 2 "is_product_negative" ["x", "y"] sp_is_product_negative) (c_TOP : Cst mg "TOP" (.int 16777216)) (c_INFINITY : Cst mg "INFINITY" (.int 31744)) (c_NAN : Cst mg "NAN" (.int 32256)) : Def P w K mg base 4 "multiplied" ["x", "y", "mode"] sp_multiplied := by
  obtain ⟨f, fd, F, b, m⟩ := R
  refine ⟨f, fd, F.ok sc_multiplied (fun vs H Q E h => ?_) (fun cdv A outer s H vs Q E hr h => ?_), b, F.kp, m, look F⟩
  · obtain ⟨x, y, m, rfl, hx, hy, nx, ny, hm, q⟩ := h
    rfl
  · obtain ⟨x, y, m, rfl, hx, hy, nx, ny, hm, q⟩ := h
    refine ⟨_, (pss_cons (ps_set (i := 3) sc_multiplied.nd rfl (Or.inl rfl) (pe_def d_is_product_negative (hr.mono (by decide)) (pa_cons (pv 0) (pa_cons (pv 1) pa_nil))))
      (pss_cons (ps_if (pt_val (pe_def d_has_no_product (hr.mono (by decide)) (pa_cons (pv 0) (pa_cons (pv 1) pa_nil)))) (pss_one (ps_ret (pe_cst c_NAN))) pss_nil)
      (pss_cons (ps_if (PW.pt (pw_or (pt_val (pe_def d_is_infinite (hr.mono (by decide)) (pa_cons (pv 0) pa_nil))) (pw_or1 (pt_val (pe_def d_is_infinite (hr.mono (by decide)) (pa_cons (pv 1) pa_nil)))))) (pss_one (ps_ret (pe_def d_with_sign (hr.mono (by decide)) (pa_cons (pe_cst c_INFINITY) (pa_cons (pv 3) pa_nil))))) pss_nil)
      (pss_one (ps_ret (pe_def d_rounded (hr.mono (by decide)) (pa_cons (pe_op op_mulNW (pe_def d_units (hr.mono (by decide)) (pa_cons (pv 0) pa_nil)) (pe_def d_units (hr.mono (by decide)) (pa_cons (pv 1) pa_nil))) (pa_cons (pe_cst c_TOP) (pa_cons (pv 3) (pa_cons (pv 2) pa_nil)))))))))), ?_⟩
    refine ⟨_, rfl, _, rfl, x, y, rfl, hx, hy, ?_⟩
    refine ⟨_, rfl, _, rfl, x, y, rfl, _, rfl, ite2 (fun e => ?_) (fun e => ?_)⟩
    · rw [product_nan nx ny e] at q
      exact q
    have e := Bool.eq_false_iff.mpr e
    refine ⟨_, rfl, x, rfl, _, rfl, tor_pure (d := Sv03.isInf y) (fun Q' k => ⟨_, rfl, y, rfl, _, rfl, k⟩) (ite2 (fun e1 => ?_) (fun e1 => ?_))⟩
    · rw [product_inf nx ny e e1] at q
      exact ⟨_, rfl, 31744, _, rfl, q⟩
    rw [← product_fin hm nx ny e (Bool.eq_false_iff.mpr e1)] at q
    have b1 := units_bound (mag_lt x)
    have b2 := units_bound (mag_lt y)
    refine ⟨_, rfl, x, rfl, _, rfl, y, rfl, _, _, 42, 42, rfl, rfl, ⟨b1, b2, by decide, by decide, by decide⟩, _, rfl, _, rfl, _, 16777216, m, _, rfl, ?_, by decide, by decide, hm, q⟩
    refine Nat.lt_of_lt_of_le (Nat.mul_lt_mul'' b1 b2) ?_
    rw [← Nat.pow_add]
    exact pow_le_pow (by decide)
theorem ok_divided (R : Raw K mg "divided" s_divided ["x", "y", "mode"]) (d_rounded : Def P w K mg base 3 "rounded" ["top", "bottom", "negative", "mode"] sp_rounded) (d_units : Def P w K mg base 2 "units" ["bits"] sp_units) (d_is_infinite : Def P w K mg base 2 "is_infinite" ["bits"] sp_is_infinite) (d_with_sign : Def P w K mg base 1 "with_sign" ["size", "negative"] sp_with_sign) (d_is_zero : Def P w K mg base 2 "is_zero" ["bits"] sp_is_zero) (d_is_product_negative : Def P w K mg base 2 "is_product_negative" ["x", "y"] sp_is_product_negative) (c_UNIT_BITS : Cst mg "UNIT_BITS" (.int 24)) (c_INFINITY : Cst mg "INFINITY" (.int 31744)) (c_NAN : Cst mg "NAN" (.int 32256)) : Def P w K mg base 4 "divided" ["x", "y", "mode"] sp_divided := by
  obtain ⟨f, fd, F, b, m⟩ := R
  refine ⟨f, fd, F.ok sc_divided (fun vs H Q E h => ?_) (fun cdv A outer s H vs Q E hr h => ?_), b, F.kp, m, look F⟩
  · obtain ⟨x, y, m, rfl, hx, hy, nx, ny, hm, q⟩ := h
    rfl
  · obtain ⟨x, y, m, rfl, hx, hy, nx, ny, hm, q⟩ := h
    refine ⟨_, (pss_cons (ps_set (i := 3) sc_divided.nd rfl (Or.inl rfl) (pe_def d_is_product_negative (hr.mono (by decide)) (pa_cons (pv 0) (pa_cons (pv 1) pa_nil))))
      (pss_cons (ps_if (PW.pt (pw_or (PW.pt (pw_and (pt_val (pe_def d_is_infinite (hr.mono (by decide)) (pa_cons (pv 0) pa_nil))) (pw_and1 (pt_val (pe_def d_is_infinite (hr.mono (by decide)) (pa_cons (pv 1) pa_nil)))))) (pw_or1 (PW.pt (pw_and (pt_val (pe_def d_is_zero (hr.mono (by decide)) (pa_cons (pv 0) pa_nil))) (pw_and1 (pt_val (pe_def d_is_zero (hr.mono (by decide)) (pa_cons (pv 1) pa_nil))))))))) (pss_one (ps_ret (pe_cst c_NAN))) pss_nil)
      (pss_cons (ps_if (PW.pt (pw_or (pt_val (pe_def d_is_infinite (hr.mono (by decide)) (pa_cons (pv 0) pa_nil))) (pw_or1 (pt_val (pe_def d_is_zero (hr.mono (by decide)) (pa_cons (pv 1) pa_nil)))))) (pss_one (ps_ret (pe_def d_with_sign (hr.mono (by decide)) (pa_cons (pe_cst c_INFINITY) (pa_cons (pv 3) pa_nil))))) pss_nil)
      (pss_cons (ps_if (pt_val (pe_def d_is_infinite (hr.mono (by decide)) (pa_cons (pv 1) pa_nil))) (pss_one (ps_ret (pe_def d_with_sign (hr.mono (by decide)) (pa_cons pe_int (pa_cons (pv 3) pa_nil))))) pss_nil)
      (pss_one (ps_ret (pe_def d_rounded (hr.mono (by decide)) (pa_cons (pe_op op_shlNN (pe_def d_units (hr.mono (by decide)) (pa_cons (pv 0) pa_nil)) (pe_cst c_UNIT_BITS)) (pa_cons (pe_def d_units (hr.mono (by decide)) (pa_cons (pv 1) pa_nil)) (pa_cons (pv 3) (pa_cons (pv 2) pa_nil))))))))))), ?_⟩
    refine ⟨_, rfl, _, rfl, x, y, rfl, hx, hy, ?_⟩
    refine ⟨_, rfl, x, rfl, _, rfl, tand_pure (d := Sv03.isInf y) (fun Q' k => ⟨_, rfl, y, rfl, _, rfl, k⟩) (tor_pure (d := Sv03.isZero x && Sv03.isZero y) (fun Q' k => ⟨_, rfl, x, rfl, _, rfl, tand_pure (d := Sv03.isZero y) (fun Q2 k2 => ⟨_, rfl, y, rfl, _, rfl, k2⟩) k⟩) (ite2 (fun e => ?_) (fun e => ?_)))⟩
    · rw [quotient_nan nx ny e] at q
      exact q
    have e := Bool.eq_false_iff.mpr e
    refine ⟨_, rfl, x, rfl, _, rfl, tor_pure (d := Sv03.isZero y) (fun Q' k => ⟨_, rfl, y, rfl, _, rfl, k⟩) (ite2 (fun e1 => ?_) (fun e1 => ?_))⟩
    · rw [quotient_inf nx ny e e1] at q
      exact ⟨_, rfl, 31744, _, rfl, q⟩
    have e1 := Bool.eq_false_iff.mpr e1
    refine ⟨_, rfl, y, rfl, _, rfl, ite2 (fun e2 => ?_) (fun e2 => ?_)⟩
    · rw [quotient_zero nx ny e e1 e2] at q
      exact ⟨_, rfl, 0, _, rfl, q⟩
    rw [← quotient_fin hm nx ny e e1 (Bool.eq_false_iff.mpr e2)] at q
    have b1 := units_bound (mag_lt x)
    have b2 := units_bound (mag_lt y)
    have zy : Sv03.isZero y = false := by
      cases z : Sv03.isZero y
      · rfl
      · rw [z, Bool.or_true] at e1
        cases e1
    refine ⟨_, rfl, x, rfl, _, 24, 42, rfl, rfl, ⟨b1, by decide⟩, _, rfl, y, rfl, _, rfl, _, rfl, _, _, m, _, rfl, ?_, nonzero_units zy, Nat.lt_of_lt_of_le b2 (pow_le_pow (by decide)), hm, q⟩
    refine Nat.lt_of_lt_of_le (Nat.mul_lt_mul_of_pos_right b1 (pow_pos _)) ?_
    rw [← Nat.pow_add]
    exact pow_le_pow (by decide)
theorem ok_whole_root (R : Raw K mg "whole_root" s_whole_root ["number"]) (z_range : mg "range" = none) : Def P w K mg base 1 "whole_root" ["number"] sp_whole_root := by
  obtain ⟨f, fd, F, b, m⟩ := R
  refine ⟨f, fd, F.ok sc_whole_root (fun vs H Q E h => ?_) (fun cdv A outer s H vs Q E hr h => ?_), b, F.kp, m, look F⟩
  · obtain ⟨n, rfl, hn, q⟩ := h
    rfl
  · obtain ⟨n, rfl, hn, q⟩ := h
    refine ⟨_, (pss_cons (ps_set (i := 1) sc_whole_root.nd rfl (Or.inl rfl) pe_int)
      (pss_cons (ps_for PassesOwn.never rfl (pi_range3 (by rfl) z_range (pa_cons (pe_op op_fdivNW (pe_bits (pv 0)) pe_int) (pa_cons (pe_un un_neg pe_int) (pa_cons (pe_un un_neg pe_int) pa_nil)))) (pg_name (i := 2) sc_whole_root.nd rfl (Or.inl rfl)) (pss_cons (ps_set (i := 3) sc_whole_root.nd rfl (Or.inl rfl) (pe_op L2.op_addN (pv 1) (pe_op op_oneNN pe_int (pv 2))))
      (pss_one (ps_if (pt_cmpR op_leNN (pe_op op_mulNW (pv 3) (pv 3)) (pv 0) (nomark _)) (pss_one (ps_set (i := 1) sc_whole_root.nd rfl (Or.inl rfl) (pv 3))) pss_nil))))
      (pss_one (ps_ret (pv 1))))), ?_⟩
    have eb := intBits_len n
    have hl : len n ≤ 100 := len_le_of_lt hn
    have hR : RgC ((len n / 2 : Nat) : Int) (-1) (-1) (len n / 2 + 1) := by
      have z := RgC.neg (i := ((len n / 2 : Nat) : Int)) (j := -1) (by omega) (by omega) (by omega) (by omega)
      rw [show (((len n / 2 : Nat) : Int) - -1).toNat = len n / 2 + 1 by omega] at z
      exact z
    refine ⟨_, rfl, (n : Int), rfl, len n, 2, 2, by rw [eb], rfl, ⟨by decide, by decide, by decide, by decide⟩, 1, rfl, 1, rfl, ((len n / 2 : Nat) : Int), -1, -1, len n / 2 + 1, rfl, hR,
      for_rangeC (lo := ((len n / 2 : Nat) : Int)) (c := -1) (n := len n / 2 + 1) (fun i σ H' => ∃ (fo : Nat) (y z : Option V), σ = [some (.int (n : Int)), some (.int (fo : Int)), y, z] ∧ Roots n fo (len n / 2 + 1 - i) ∧ H' = H) ⟨0, none, none, rfl, roots_start n, rfl⟩ ?_ ?_⟩
    · rintro i σ H' hi ⟨fo, y, z, rfl, hr2, rfl⟩
      rw [show ((len n / 2 : Nat) : Int) + (i : Int) * -1 = ((len n / 2 - i : Nat) : Int) by omega]
      rw [show len n / 2 + 1 - i = (len n / 2 - i) + 1 by omega] at hr2
      have hf : fo < 2 ^ 50 := roots_bound (b := 50) hr2 hn
      have hk : 2 ^ (len n / 2 - i) ≤ 2 ^ 50 := pow_le_pow (by omega)
      have hmo : fo + 2 ^ (len n / 2 - i) < 2 ^ 51 := by
        have : (2 : Nat) ^ 51 = 2 ^ 50 + 2 ^ 50 := by decide
        omega
      have ek : len n / 2 + 1 - (i + 1) = len n / 2 - i := by omega
      refine ⟨_, rfl, _, rfl, len n / 2 - i, rfl, rfl, by omega, fo, _, rfl, rfl, ?_⟩
      refine ⟨_, rfl, _, rfl, _, _, 51, 51, rfl, rfl, ⟨hmo, hmo, by decide, by decide, by decide⟩, _, rfl, _, n, rfl, rfl, _, rfl, ite2 (fun e => ?_) (fun e => ?_)⟩
      · exact ⟨_, rfl, _, _, _, rfl, by rw [ek]; exact roots_up hr2 (of_decide_eq_true e), rfl⟩
      · exact ⟨fo, _, _, rfl, by rw [ek]; exact roots_stay hr2 (fun z => e (decide_eq_true z)), rfl⟩
    · rintro σ H' ⟨fo, y, z, rfl, hr2, rfl⟩
      rw [Nat.sub_self] at hr2
      exact ⟨_, rfl, q fo hr2.lo hr2.hi⟩
theorem ok_rooted (R : Raw K mg "rooted" s_rooted ["x", "mode"]) (d_rounded : Def P w K mg base 3 "rounded" ["top", "bottom", "negative", "mode"] sp_rounded) (d_whole_root : Def P w K mg base 1 "whole_root" ["number"] sp_whole_root) (d_units : Def P w K mg base 2 "units" ["bits"] sp_units) (d_is_infinite : Def P w K mg base 2 "is_infinite" ["bits"] sp_is_infinite) (d_is_negative : Def P w K mg base 1 "is_negative" ["bits"] sp_is_negative) (d_is_zero : Def P w K mg base 2 "is_zero" ["bits"] sp_is_zero) (c_ROOT_BITS : Cst mg "ROOT_BITS" (.int 4)) (c_UNIT_BITS : Cst mg "UNIT_BITS" (.int 24)) (c_NAN : Cst mg "NAN" (.int 32256)) (z_int : mg "int" = none) : Def P w K mg base 4 "rooted" ["x", "mode"] sp_rooted := by
  obtain ⟨f, fd, F, b, m⟩ := R
  refine ⟨f, fd, F.ok sc_rooted (fun vs H Q E h => ?_) (fun cdv A outer s H vs Q E hr h => ?_), b, F.kp, m, look F⟩
  · obtain ⟨x, m, rfl, hx, nx, hm, q⟩ := h
    rfl
  · obtain ⟨x, m, rfl, hx, nx, hm, q⟩ := h
    refine ⟨_, (pss_cons (ps_if (pt_val (pe_def d_is_zero (hr.mono (by decide)) (pa_cons (pv 0) pa_nil))) (pss_one (ps_ret (pv 0))) pss_nil)
      (pss_cons (ps_if (pt_val (pe_def d_is_negative (hr.mono (by decide)) (pa_cons (pv 0) pa_nil))) (pss_one (ps_ret (pe_cst c_NAN))) pss_nil)
      (pss_cons (ps_if (pt_val (pe_def d_is_infinite (hr.mono (by decide)) (pa_cons (pv 0) pa_nil))) (pss_one (ps_ret (pv 0))) pss_nil)
      (pss_cons (ps_set (i := 2) sc_rooted.nd rfl (Or.inl rfl) (pe_op op_shlNN (pe_def d_units (hr.mono (by decide)) (pa_cons (pv 0) pa_nil)) (pe_op L2.op_addN (pe_cst c_UNIT_BITS) (pe_op op_mulNW pe_int (pe_cst c_ROOT_BITS)))))
      (pss_cons (ps_set (i := 3) sc_rooted.nd rfl (Or.inl rfl) (pe_def d_whole_root (hr.mono (by decide)) (pa_cons (pv 2) pa_nil)))
      (pss_one (ps_ret (pe_def d_rounded (hr.mono (by decide)) (pa_cons (pe_op L2.op_addN (pe_op op_mulNW pe_int (pv 3)) (pe_callTy call_intB (by rfl) z_int (by decide +kernel) (pa_cons (pe_cmpR op_ltNN (pe_op op_mulNW (pv 3) (pv 3)) (pv 2) (nomark _)) pa_nil))) (pa_cons (pe_op op_shlNN pe_int (pe_cst c_ROOT_BITS)) (pa_cons pe_bl (pa_cons (pv 1) pa_nil)))))))))))), ?_⟩
    refine ⟨_, rfl, x, rfl, _, rfl, ite2 (fun zx => ?_) (fun zx => ?_)⟩
    · rw [root_zero hx nx zx] at q
      exact ⟨_, rfl, q⟩
    have zx := Bool.eq_false_iff.mpr zx
    refine ⟨_, rfl, x, rfl, hx, _, rfl, ite2 (fun sx => ?_) (fun sx => ?_)⟩
    · rw [root_nan nx zx sx] at q
      exact q
    have sx := Bool.eq_false_iff.mpr sx
    refine ⟨_, rfl, x, rfl, _, rfl, ite2 (fun ix => ?_) (fun ix => ?_)⟩
    · rw [root_inf hx nx zx sx ix] at q
      exact ⟨_, rfl, q⟩
    have ix := Bool.eq_false_iff.mpr ix
    have ub := units_bound (mag_lt x)
    have sb : Sv03.units (Sv03.mag x) * 2 ^ 32 < 2 ^ 100 := by
      refine Nat.lt_of_lt_of_le (Nat.mul_lt_mul_of_pos_right ub (pow_pos _)) ?_
      rw [← Nat.pow_add]
      exact pow_le_pow (by decide)
    refine ⟨_, rfl, x, rfl, 2, 4, 2, 3, rfl, rfl, ⟨by decide, by decide, by decide, by decide, by decide⟩, 24, _, rfl, rfl, _, 32, 42, rfl, rfl, ⟨ub, by decide⟩, ?_⟩
    refine ⟨_, rfl, _, rfl, sb, fun r h1 h2 => ?_⟩
    have hr3 : r < 2 ^ 50 := sq_lt_imp (Nat.lt_of_le_of_lt h1 (by rw [← Nat.pow_add]; exact sb))
    rw [← root_is nx zx sx ix h1 h2] at q
    refine ⟨_, rfl, 2, r, 2, 50, rfl, rfl, ⟨by decide, hr3, by decide, by decide, by decide⟩, _, rfl, _, rfl, r, r, 50, 50, rfl, rfl, ⟨hr3, hr3, by decide, by decide, by decide⟩, _, rfl, _, _, rfl, rfl, _, rfl, _, _, rfl, rfl, 2, 4, 2, rfl, rfl, ⟨by decide, by decide⟩, _, rfl, _, 2 * 2 ^ 4, m, false, rfl, ?_, by decide, by decide, hm, q⟩
    have t1 := Bool.toNat_lt (decide (r * r < Sv03.units (Sv03.mag x) * 2 ^ 32))
    exact Nat.lt_of_lt_of_le (show _ < 2 ^ 52 by omega) (pow_le_pow (by decide))
theorem ok_multiplied_and_added (R : Raw K mg "multiplied_and_added" s_multiplied_and_added ["x", "y", "z", "mode"]) (d_signed_half : Def P w K mg base 4 "signed_half" ["number", "bottom", "mode"] sp_signed_half) (d_zero_sum : Def P w K mg base 2 "zero_sum" ["first", "second", "mode"] sp_zero_sum) (d_is_negative : Def P w K mg base 1 "is_negative" ["bits"] sp_is_negative) (d_signed_units : Def P w K mg base 3 "signed_units" ["bits"] sp_signed_units) (d_is_infinite : Def P w K mg base 2 "is_infinite" ["bits"] sp_is_infinite) (d_added : Def P w K mg base 5 "added" ["x", "y", "mode"] sp_added) (d_with_sign : Def P w K mg base 1 "with_sign" ["size", "negative"] sp_with_sign) (d_has_no_product : Def P w K mg base 3 "has_no_product" ["x", "y"] sp_has_no_product) (d_is_product_negative : Def P w K mg base 2 "is_product_negative" ["x", "y"] sp_is_product_negative) (c_TOP : Cst mg "TOP" (.int 16777216)) (c_INFINITY : Cst mg "INFINITY" (.int 31744)) (c_NAN : Cst mg "NAN" (.int 32256)) : Def P w K mg base 6 "multiplied_and_added" ["x", "y", "z", "mode"] sp_multiplied_and_added := by
  obtain ⟨f, fd, F, b, m⟩ := R
  refine ⟨f, fd, F.ok sc_multiplied_and_added (fun vs H Q E h => ?_) (fun cdv A outer s H vs Q E hr h => ?_), b, F.kp, m, look F⟩
  · obtain ⟨x, y, z, m, rfl, hx, hy, hz, nx, ny, nz, hm, q⟩ := h
    rfl
  · obtain ⟨x, y, z, m, rfl, hx, hy, hz, nx, ny, nz, hm, q⟩ := h
    refine ⟨_, (pss_cons (ps_set (i := 4) sc_multiplied_and_added.nd rfl (Or.inl rfl) (pe_def d_is_product_negative (hr.mono (by decide)) (pa_cons (pv 0) (pa_cons (pv 1) pa_nil))))
      (pss_cons (ps_if (pt_val (pe_def d_has_no_product (hr.mono (by decide)) (pa_cons (pv 0) (pa_cons (pv 1) pa_nil)))) (pss_one (ps_ret (pe_cst c_NAN))) pss_nil)
      (pss_cons (ps_if (PW.pt (pw_or (pt_val (pe_def d_is_infinite (hr.mono (by decide)) (pa_cons (pv 0) pa_nil))) (pw_or1 (pt_val (pe_def d_is_infinite (hr.mono (by decide)) (pa_cons (pv 1) pa_nil)))))) (pss_one (ps_ret (pe_def d_added (hr.mono (by decide)) (pa_cons (pe_def d_with_sign (hr.mono (by decide)) (pa_cons (pe_cst c_INFINITY) (pa_cons (pv 4) pa_nil))) (pa_cons (pv 2) (pa_cons (pv 3) pa_nil)))))) pss_nil)
      (pss_cons (ps_if (pt_val (pe_def d_is_infinite (hr.mono (by decide)) (pa_cons (pv 2) pa_nil))) (pss_one (ps_ret (pv 2))) pss_nil)
      (pss_cons (ps_set (i := 5) sc_multiplied_and_added.nd rfl (Or.inl rfl) (pe_op op_add (pe_op op_mul (pe_def d_signed_units (hr.mono (by decide)) (pa_cons (pv 0) pa_nil)) (pe_def d_signed_units (hr.mono (by decide)) (pa_cons (pv 1) pa_nil))) (pe_op op_mul (pe_def d_signed_units (hr.mono (by decide)) (pa_cons (pv 2) pa_nil)) (pe_cst c_TOP))))
      (pss_cons (ps_if (pt_cmpR op_eqII (pv 5) pe_int (nomark _)) (pss_one (ps_ret (pe_def d_zero_sum (hr.mono (by decide)) (pa_cons (pv 4) (pa_cons (pe_def d_is_negative (hr.mono (by decide)) (pa_cons (pv 2) pa_nil)) (pa_cons (pv 3) pa_nil)))))) pss_nil)
      (pss_one (ps_ret (pe_def d_signed_half (hr.mono (by decide)) (pa_cons (pv 5) (pa_cons (pe_cst c_TOP) (pa_cons (pv 3) pa_nil)))))))))))), ?_⟩
    refine ⟨_, rfl, _, rfl, x, y, rfl, hx, hy, ?_⟩
    refine ⟨_, rfl, _, rfl, x, y, rfl, _, rfl, ite2 (fun e => ?_) (fun e => ?_)⟩
    · rw [fused_nan nx ny nz e] at q
      exact q
    have e := Bool.eq_false_iff.mpr e
    refine ⟨_, rfl, x, rfl, _, rfl, tor_pure (d := Sv03.isInf y) (fun Q' k => ⟨_, rfl, y, rfl, _, rfl, k⟩) (ite2 (fun e1 => ?_) (fun e1 => ?_))⟩
    · rw [← fused_inf nx ny nz e e1] at q
      obtain ⟨s1, s2, _, _⟩ := signed_inf (Sv03.minus x != Sv03.minus y)
      exact ⟨_, rfl, 31744, _, rfl, _, rfl, _, rfl, _, z, m, rfl, s1, hz, s2, nz, hm, q⟩
    have e1 := Bool.eq_false_iff.mpr e1
    refine ⟨_, rfl, z, rfl, _, rfl, ite2 (fun iz => ?_) (fun iz => ?_)⟩
    · rw [fused_z hz nx ny nz e e1 iz] at q
      exact ⟨_, rfl, q⟩
    rw [fused_fin nx ny nz e e1 (Bool.eq_false_iff.mpr iz)] at q
    have b1 := value_bound x
    have b2 := value_bound y
    have b3 := value_bound z
    refine ⟨_, rfl, x, rfl, hx, _, rfl, y, rfl, hy, _, _, rfl, rfl, .inl ⟨by omega, by omega⟩, _, rfl, z, rfl, hz, _, 16777216, rfl, rfl, .inr ⟨by decide, by decide⟩, _, _, rfl, rfl, ?_⟩
    have b4 : (Sv03.value x * Sv03.value y + Sv03.value z * 16777216).natAbs < 2 ^ 300 := by
      have c1 : (Sv03.value x * Sv03.value y).natAbs < 2 ^ 84 := by
        rw [Int.natAbs_mul]
        refine Nat.lt_of_lt_of_le (Nat.mul_lt_mul'' b1 b2) ?_
        rw [← Nat.pow_add]
        exact pow_le_pow (by decide)
      generalize Sv03.value x * Sv03.value y = w1 at c1 ⊢
      exact Nat.lt_of_lt_of_le (show _ < 2 ^ 85 by omega) (pow_le_pow (by decide))
    dsimp only
    generalize Sv03.value x * Sv03.value y + Sv03.value z * 16777216 = v at q b4 ⊢
    refine ⟨_, rfl, v, 0, rfl, rfl, _, rfl, ite2 (fun e0 => ?_) (fun e0 => ?_)⟩
    · rw [ofInt_zero (of_decide_eq_true e0)] at q
      exact ⟨_, rfl, _, rfl, z, rfl, hz, _, rfl, _, _, m, rfl, q⟩
    · rw [ofInt_ne (fun z => e0 (decide_eq_true z))] at q
      exact ⟨_, rfl, _, rfl, v, 16777216, m, rfl, b4, by decide, by decide, hm, q⟩
theorem ok_operands_used (R : Raw K mg "operands_used" s_operands_used ["op", "x", "y", "z"]) : Def P w K mg base 1 "operands_used" ["op", "x", "y", "z"] sp_operands_used := by
  obtain ⟨f, fd, F, b, m⟩ := R
  refine ⟨f, fd, F.ok sc_operands_used (fun vs H Q E h => ?_) (fun cdv A outer s H vs Q E hr h => ?_), b, F.kp, m, look F⟩
  · obtain ⟨o, x, y, z, rfl, q⟩ := h
    rfl
  · obtain ⟨o, x, y, z, rfl, q⟩ := h
    refine ⟨_, (pss_cons (ps_if (pt_cmpR op_eqNN (pv 0) pe_int (nomark _)) (pss_one (ps_ret (pe_lst (pa_cons (pv 1) pa_nil)))) pss_nil)
      (pss_cons (ps_if (pt_cmpR op_eqNN (pv 0) pe_int (nomark _)) (pss_one (ps_ret (pe_lst (pa_cons (pv 1) (pa_cons (pv 2) (pa_cons (pv 3) pa_nil)))))) pss_nil)
      (pss_one (ps_ret (pe_lst (pa_cons (pv 1) (pa_cons (pv 2) pa_nil))))))), ?_⟩
    unfold used at q
    refine ⟨_, rfl, o, 4, rfl, rfl, _, rfl, ite2 (fun e => ?_) (fun e => ?_)⟩
    · rw [if_pos (of_decide_eq_true e)] at q
      exact ⟨_, rfl, by show 1 ≤ sizeLine; decide, fun p np => q p np⟩
    rw [if_neg (fun z => e (decide_eq_true z))] at q
    refine ⟨_, rfl, o, 5, rfl, rfl, _, rfl, ite2 (fun e => ?_) (fun e => ?_)⟩
    · rw [if_pos (of_decide_eq_true e)] at q
      exact ⟨_, rfl, _, rfl, _, rfl, by show 3 ≤ sizeLine; decide, fun p np => q p np⟩
    · rw [if_neg (fun z => e (decide_eq_true z))] at q
      exact ⟨_, rfl, _, rfl, by show 2 ≤ sizeLine; decide, fun p np => q p np⟩
theorem ok_computed (R : Raw K mg "computed" s_computed ["op", "mode", "x", "y", "z"]) (d_place_in_order : Def P w K mg base 2 "place_in_order" ["bits"] sp_place_in_order) (d_multiplied_and_added : Def P w K mg base 6 "multiplied_and_added" ["x", "y", "z", "mode"] sp_multiplied_and_added) (d_rooted : Def P w K mg base 4 "rooted" ["x", "mode"] sp_rooted) (d_divided : Def P w K mg base 4 "divided" ["x", "y", "mode"] sp_divided) (d_multiplied : Def P w K mg base 4 "multiplied" ["x", "y", "mode"] sp_multiplied) (d_added : Def P w K mg base 5 "added" ["x", "y", "mode"] sp_added) (d_contrary : Def P w K mg base 2 "contrary" ["bits"] sp_contrary) (d_operands_used : Def P w K mg base 1 "operands_used" ["op", "x", "y", "z"] sp_operands_used) (d_is_nan : Def P w K mg base 2 "is_nan" ["bits"] sp_is_nan) (c_NAN : Cst mg "NAN" (.int 32256)) (z_any : mg "any" = none) : Def P w K mg base 7 "computed" ["op", "mode", "x", "y", "z"] sp_computed := by
  obtain ⟨f, fd, F, b, m⟩ := R
  refine ⟨f, fd, F.ok sc_computed (fun vs H Q E h => ?_) (fun cdv A outer s H vs Q E hr h => ?_), b, F.kp, m, look F⟩
  · obtain ⟨o, m, x, y, z, rfl, ho, hm, hx, hy, hz, q⟩ := h
    rfl
  · obtain ⟨o, m, x, y, z, rfl, ho, hm, hx, hy, hz, q⟩ := h
    refine ⟨_, (pss_cons (ps_if (pt_val (pe_callB (cr_any rfl) (by rfl) z_any (by decide +kernel) (pa_cons (pe_lc (own := [("bits", 5)]) (tt := tYes) rfl sc_computed.nd (pi_list (pe_def d_operands_used (hr.mono (by decide)) (pa_cons (pv 0) (pa_cons (pv 2) (pa_cons (pv 3) (pa_cons (pv 4) pa_nil)))))) (blkOk_by (own := [("bits", 5)]) (N := ["op", "mode", "x", "y", "z", "bits"]) (sc := defScope s_computed) (by decide +kernel)) (fun _ _ _ _ _ => (pg_name (i := 5) sc_computed.nd rfl (Or.inl rfl))) (fun _ _ _ _ _ => pts_nil) (fun _ _ _ _ _ => (pe_def d_is_nan (hr.mono (by decide)) (pa_cons (pv 5) pa_nil)))) pa_nil))) (pss_one (ps_ret (pe_cst c_NAN))) pss_nil)
      (pss_cons (ps_if (pt_cmpR op_eqNN (pv 0) pe_int (nomark _)) (pss_one (ps_ret (pe_def d_added (hr.mono (by decide)) (pa_cons (pv 2) (pa_cons (pv 3) (pa_cons (pv 1) pa_nil)))))) pss_nil)
      (pss_cons (ps_if (pt_cmpR op_eqNN (pv 0) pe_int (nomark _)) (pss_one (ps_ret (pe_def d_added (hr.mono (by decide)) (pa_cons (pv 2) (pa_cons (pe_def d_contrary (hr.mono (by decide)) (pa_cons (pv 3) pa_nil)) (pa_cons (pv 1) pa_nil)))))) pss_nil)
      (pss_cons (ps_if (pt_cmpR op_eqNN (pv 0) pe_int (nomark _)) (pss_one (ps_ret (pe_def d_multiplied (hr.mono (by decide)) (pa_cons (pv 2) (pa_cons (pv 3) (pa_cons (pv 1) pa_nil)))))) pss_nil)
      (pss_cons (ps_if (pt_cmpR op_eqNN (pv 0) pe_int (nomark _)) (pss_one (ps_ret (pe_def d_divided (hr.mono (by decide)) (pa_cons (pv 2) (pa_cons (pv 3) (pa_cons (pv 1) pa_nil)))))) pss_nil)
      (pss_cons (ps_if (pt_cmpR op_eqNN (pv 0) pe_int (nomark _)) (pss_one (ps_ret (pe_def d_rooted (hr.mono (by decide)) (pa_cons (pv 2) (pa_cons (pv 1) pa_nil))))) pss_nil)
      (pss_cons (ps_if (pt_cmpR op_eqNN (pv 0) pe_int (nomark _)) (pss_one (ps_ret (pe_def d_multiplied_and_added (hr.mono (by decide)) (pa_cons (pv 2) (pa_cons (pv 3) (pa_cons (pv 4) (pa_cons (pv 1) pa_nil))))))) pss_nil)
      (pss_cons (ps_if (pt_cmpR op_eqBB (pe_cmpR (op_leT hr.units0) (pe_def d_place_in_order (hr.mono (by decide)) (pa_cons (pv 2) pa_nil)) (pe_def d_place_in_order (hr.mono (by decide)) (pa_cons (pv 3) pa_nil)) (nomark _)) (pe_cmpR op_eqNN (pv 0) pe_int (nomark _)) (nomark _)) (pss_one (ps_ret (pv 2))) pss_nil)
      (pss_one (ps_ret (pv 3))))))))))), ?_⟩
    have sz : 1000 < sizeLine := by decide
    have ul := used_len o x y z
    refine ⟨_, rfl, _, rfl, _, rfl, _, rfl, o, x, y, z, rfl, fun p np => ?_⟩
    have s1 := same_new (o := .lst ((used o x y z).map vN)) np
    refine ⟨p, rfl, ⟨_, SqL.of upd_same⟩, fun D nD => ?_⟩
    refine lc_list (K := K) (a := p) (xs := (used o x y z).map vN) (fun i H' => Same (upd H p (.lst ((used o x y z).map vN))) H' ∧ H' D = some (.lst ((((used o x y z).map Sv03.isNan).take i).map V.bl))) ⟨same_new nD, by rw [upd_same]; rfl⟩ (fun i H' _ z => SqL.of (z.1 _ _ upd_same)) ?_ ?_
    · rintro i v H' hi ⟨s3, h3⟩
      obtain ⟨n, hn, rfl⟩ : ∃ n, (used o x y z)[i]? = some n ∧ v = vN n := by
        rw [List.getElem?_map] at hi
        cases e : (used o x y z)[i]? with
        | none =>
          rw [e] at hi
          cases hi
        | some n =>
          rw [e] at hi
          exact ⟨n, rfl, (Option.some.inj hi).symm⟩
      refine ⟨rfl, _, rfl, n, rfl, _, h3, ?_, same_upd s3 nD, ?_⟩
      · rw [List.length_map, List.length_take, List.length_map]
        omega
      · have g : ((used o x y z).map Sv03.isNan)[i]? = some (Sv03.isNan n) := by
          rw [List.getElem?_map, hn]
          rfl
        rw [upd_same, take_next g, List.map_append]
        rfl
    rintro H' ⟨s3, h3⟩
    rw [List.length_map, List.take_of_length_le (by rw [List.length_map]; exact Nat.le_refl _)] at h3
    have s4 : Same H H' := s1.trans s3
    refine ⟨D, _, rfl, SqL.of h3, _, rfl, ite2 (fun e => ?_) (fun e => ?_)⟩
    · rw [arith_nan ho e] at q
      exact q _ s4
    have nans : ∀ n, n ∈ used o x y z → Sv03.isNan n = false := fun n hn => by
      refine Bool.eq_false_iff.mpr fun z => e ?_
      rw [List.any_eq_true]
      exact ⟨true, List.mem_map.mpr ⟨n, hn, z⟩, rfl⟩
    have nx : Sv03.isNan x = false := nans x (by unfold used; split; simp; split <;> simp)
    have ny : o ≠ 4 → Sv03.isNan y = false := fun c => nans y (by unfold used; rw [if_neg c]; split <;> simp)
    refine ⟨_, rfl, o, 0, rfl, rfl, _, rfl, ite2 (fun e0 => ?_) (fun e0 => ?_)⟩
    · have eo : o = 0 := of_decide_eq_true e0
      subst eo
      exact ⟨_, rfl, _, rfl, _, rfl, x, y, m, rfl, hx, hy, nx, ny (by decide), hm, q _ s4⟩
    refine ⟨_, rfl, o, 1, rfl, rfl, _, rfl, ite2 (fun e1 => ?_) (fun e1 => ?_)⟩
    · have eo : o = 1 := of_decide_eq_true e1
      subst eo
      have ny := ny (by decide)
      have ea : Sv03.arith 1 m x y z = Sv03.sum m x (Sv03.opposite y) := by
        show (if Sv03.isNan y = true then Sv03.NAN else Sv03.sum m x (Sv03.opposite y)) = _
        rw [if_neg (by rw [ny]; exact Bool.false_ne_true)]
      rw [ea] at q
      exact ⟨_, rfl, _, rfl, y, rfl, hy, _, rfl, x, Sv03.opposite y, m, rfl, hx, opposite_lt y, nx, nan_opposite ny, hm, q _ s4⟩
    refine ⟨_, rfl, o, 2, rfl, rfl, _, rfl, ite2 (fun e2 => ?_) (fun e2 => ?_)⟩
    · have eo : o = 2 := of_decide_eq_true e2
      subst eo
      exact ⟨_, rfl, _, rfl, _, rfl, x, y, m, rfl, hx, hy, nx, ny (by decide), hm, q _ s4⟩
    refine ⟨_, rfl, o, 3, rfl, rfl, _, rfl, ite2 (fun e3 => ?_) (fun e3 => ?_)⟩
    · have eo : o = 3 := of_decide_eq_true e3
      subst eo
      exact ⟨_, rfl, _, rfl, _, rfl, x, y, m, rfl, hx, hy, nx, ny (by decide), hm, q _ s4⟩
    refine ⟨_, rfl, o, 4, rfl, rfl, _, rfl, ite2 (fun e4 => ?_) (fun e4 => ?_)⟩
    · have eo : o = 4 := of_decide_eq_true e4
      subst eo
      exact ⟨_, rfl, _, rfl, x, m, rfl, hx, nx, hm, q _ s4⟩
    have nyy := ny (fun z => e4 (decide_eq_true z))
    refine ⟨_, rfl, o, 5, rfl, rfl, _, rfl, ite2 (fun e5 => ?_) (fun e5 => ?_)⟩
    · have eo : o = 5 := of_decide_eq_true e5
      subst eo
      exact ⟨_, rfl, _, rfl, _, rfl, _, rfl, x, y, z, m, rfl, hx, hy, hz, nx, nyy, nans z (by simp [used]), hm, q _ s4⟩
    have h67 : o = 6 ∨ o = 7 := by
      have c0 : ¬ o = 0 := fun z => e0 (decide_eq_true z)
      have c1 : ¬ o = 1 := fun z => e1 (decide_eq_true z)
      have c2 : ¬ o = 2 := fun z => e2 (decide_eq_true z)
      have c3 : ¬ o = 3 := fun z => e3 (decide_eq_true z)
      have c4 : ¬ o = 4 := fun z => e4 (decide_eq_true z)
      have c5 : ¬ o = 5 := fun z => e5 (decide_eq_true z)
      omega
    rw [← pick h67 hx hy nx nyy, ← lex_le] at q
    refine ⟨_, rfl, x, rfl, hx, fun p1 n1 => ⟨_, rfl, y, rfl, hy, fun p2 n2 => ?_⟩⟩
    have s5 := same_new (o := .tup ((place y).map V.int)) n2
    have s6 : Same H _ := s4.trans ((same_new n1).trans s5)
    refine ⟨p1, p2, place x, place y, rfl, rfl, SqT.of (s5 _ _ upd_same), SqT.of upd_same, _, rfl, o, 6, rfl, rfl, _, _, rfl, rfl, _, rfl, ite2 (fun e6 => ?_) (fun e6 => ?_)⟩
    · rw [if_pos e6] at q
      exact ⟨_, rfl, q _ s6⟩
    · rw [if_neg e6] at q
      exact ⟨_, rfl, q _ s6⟩
theorem ok_row_of (R : Raw K mg "row_of" s_row_of ["some"]) (c_LANES : Cst mg "LANES" (.int 32)) (z_len : mg "len" = none) : Def P w K mg base 1 "row_of" ["some"] (sp_row_of K) := by
  obtain ⟨f, fd, F, b, m⟩ := R
  refine ⟨f, fd, F.ok sc_row_of (fun vs H Q E h => ?_) (fun cdv A outer s H vs Q E hr h => ?_), b, F.kp, m, look F⟩
  · obtain ⟨a, l, rfl, hS, hl, q⟩ := h
    rfl
  · obtain ⟨a, l, rfl, hS, hl, q⟩ := h
    refine ⟨_, (pss_one (ps_ret (pe_op op_catL (pv 0) (pe_op op_rep (pe_lst (pa_cons pe_int pa_nil)) (pe_op L2.op_subN (pe_cst c_LANES) (pe_callB call_len_seq (by rfl) z_len (by decide +kernel) (pa_cons (pv 0) pa_nil))))))), ?_⟩
    have sz : 1000 < sizeLine := by decide
    refine ⟨_, rfl, by show 1 ≤ sizeLine; decide, fun p1 n1 => ?_⟩
    have s1 : Same H (upd H p1 (.lst [.int 0])) := same_new n1
    refine ⟨_, rfl, a, _, rfl, .inl (s1.seq hS), 32, (l.map vN).length, rfl, rfl, by rw [List.length_map]; exact hl, p1, _, _, rfl, rfl, upd_same, by omega, by omega, ?_, fun p2 n2 => ?_⟩
    · rw [Int.toNat_natCast]
      show 1 * _ ≤ _
      omega
    have s2 := same_new (o := .lst (List.replicate ((32 - (l.map vN).length : Nat) : Int).toNat ([.int 0] : List V)).flatten) n2
    refine ⟨a, p2, _, _, rfl, rfl, s2.seq (s1.seq hS), SqL.of upd_same, ?_, fun p3 n3 => ?_⟩
    · rw [Int.toNat_natCast, zeros, List.length_map, List.length_map, List.length_replicate]
      omega
    refine q _ p3 ((s1.trans s2).trans (same_new n3)) ((s1.trans s2).free n3) ?_
    rw [upd_same, Int.toNat_natCast, zeros, ← List.map_append, List.length_map, padded hl]
theorem ok_is_in (R : Raw K mg "is_in" s_is_in ["k", "lane"]) : Def P w K mg base 1 "is_in" ["k", "lane"] sp_is_in := by
  obtain ⟨f, fd, F, b, m⟩ := R
  refine ⟨f, fd, F.ok sc_is_in (fun vs H Q E h => ?_) (fun cdv A outer s H vs Q E hr h => ?_), b, F.kp, m, look F⟩
  · obtain ⟨k, i, rfl, q⟩ := h
    rfl
  · obtain ⟨k, i, rfl, q⟩ := h
    refine ⟨_, (pss_one (ps_ret (pe_cmpR op_eqNN (pe_op op_andNN (pe_op op_shrNN (pv 0) (pv 1)) pe_int) pe_int (nomark _)))), ?_⟩
    rw [← testBit_is] at q
    exact ⟨_, rfl, _, rfl, k, i, rfl, rfl, _, 1, rfl, rfl, _, 1, rfl, rfl, q⟩
theorem ok_is_mode (R : Raw K mg "is_mode" s_is_mode ["mode"]) (c_MODES : Cst mg "MODES" (.int 4)) : Def P w K mg base 1 "is_mode" ["mode"] sp_is_mode := by
  obtain ⟨f, fd, F, b, m⟩ := R
  refine ⟨f, fd, F.ok sc_is_mode (fun vs H Q E h => ?_) (fun cdv A outer s H vs Q E hr h => ?_), b, F.kp, m, look F⟩
  · obtain ⟨m, rfl, q⟩ := h
    rfl
  · obtain ⟨m, rfl, q⟩ := h
    refine ⟨_, (pss_one (ps_ret (pe_chain op_le op_lt pe_int (pv 0) (pe_cst c_MODES)))), ?_⟩
    rw [← isMode_is] at q
    refine ⟨_, rfl, 0, m, rfl, rfl, _, rfl, ite2 (fun e => ?_) (fun e => ?_)⟩
    · rw [if_pos (of_decide_eq_true e)] at q
      exact ⟨m, 4, rfl, rfl, q⟩
    · rw [if_neg (fun z => e (decide_eq_true z))] at q
      exact q
theorem ok_arith (R : Raw K mg "arith" s_arith ["k", "op", "mode", "a", "b", "c"]) (d_is_in : Def P w K mg base 1 "is_in" ["k", "lane"] sp_is_in) (d_computed : Def P w K mg base 7 "computed" ["op", "mode", "x", "y", "z"] sp_computed) (d_is_mode : Def P w K mg base 1 "is_mode" ["mode"] sp_is_mode) (d_row_of : Def P w K mg base 1 "row_of" ["some"] (sp_row_of K)) (c_LANES : Cst mg "LANES" (.int 32)) (c_LAST_OP : Cst mg "LAST_OP" (.int 7)) (z_range : mg "range" = none) : Def P w K mg base 8 "arith" ["k", "op", "mode", "a", "b", "c"] (sp_arith K) := by
  obtain ⟨f, fd, F, b, m⟩ := R
  refine ⟨f, fd, F.ok sc_arith (fun vs H Q E h => ?_) (fun cdv A outer s H vs Q E hr h => ?_), b, F.kp, m, look F⟩
  · obtain ⟨k, op, mode, a, b, c, l, y, z, rfl, hS, hl, hb, hT, hy, hc, hU, hz, hd, q⟩ := h
    rfl
  · obtain ⟨k, op, mode, a, b, c, l, y, z, rfl, hS, hl, hb, hT, hy, hc, hU, hz, hd, q⟩ := h
    refine ⟨_, (pss_cons (ps_set (i := 6) sc_arith.nd rfl (Or.inl rfl) (pe_def d_row_of (hr.mono (by decide)) (pa_cons (pv 3) pa_nil)))
      (pss_cons (ps_set (i := 7) sc_arith.nd rfl (Or.inl rfl) (pe_def d_row_of (hr.mono (by decide)) (pa_cons (pv 4) pa_nil)))
      (pss_cons (ps_set (i := 8) sc_arith.nd rfl (Or.inl rfl) (pe_def d_row_of (hr.mono (by decide)) (pa_cons (pv 5) pa_nil)))
      (pss_cons (ps_if (PW.pt (pw_or (pt_not (pt_chain op_le op_le pe_int (pv 1) (pe_cst c_LAST_OP))) (pw_or1 (pt_not (pt_val (pe_def d_is_mode (hr.mono (by decide)) (pa_cons (pv 2) pa_nil))))))) (pss_one (ps_ret (pv 6))) pss_nil)
      (pss_cons (ps_for PassesOwn.never rfl (pi_range1 (by rfl) z_range (pa_cons (pe_cst c_LANES) pa_nil)) (pg_name (i := 9) sc_arith.nd rfl (Or.inl rfl)) (pss_one (ps_if (pt_val (pe_def d_is_in (hr.mono (by decide)) (pa_cons (pv 0) (pa_cons (pv 9) pa_nil)))) (pss_one (ps_asg (pe_def d_computed (hr.mono (by decide)) (pa_cons (pv 1) (pa_cons (pv 2) (pa_cons (pe_ix ix_list (pv 6) (pv 9) (fun _ _ => rfl)) (pa_cons (pe_ix ix_list (pv 7) (pv 9) (fun _ _ => rfl)) (pa_cons (pe_ix ix_list (pv 8) (pv 9) (fun _ _ => rfl)) pa_nil)))))) (pg_sub (pv 6) (pv 9) set_list))) pss_nil)))
      (pss_one (ps_ret (pv 6)))))))), ?_⟩
    have due : PySv03.arith k op mode (castN l) (castN y) (castN z) = castN (if Sv03.isMode mode = true ∧ 0 ≤ op ∧ op ≤ 7 then Sv03.merged k l (fun i => Sv03.arith op.toNat mode.toNat (Sv03.at_ l i) (Sv03.at_ y i) (Sv03.at_ z i)) else Sv03.each (Sv03.at_ l)) := by
      show Sv03Neutral.f [[0, (k : Int), op, mode], castN l, castN y, castN z] = _
      unfold Sv03Neutral.f
      show (match Sv03.spec (.arith (Sv03Neutral.n (castN l)) (Sv03Neutral.n (castN y)) (Sv03Neutral.n (castN z)) (k : Int).toNat op mode) with | .vector l => l.map fun (x : Nat) => (x : Int) | .number z => [z] | .wrote z l => z :: (l.map fun (x : Nat) => (x : Int))) = _
      unfold Sv03Neutral.n
      rw [Int.toNat_natCast, castN_toNat, castN_toNat, castN_toNat]
      unfold Sv03.spec
      dsimp only
      by_cases h : Sv03.isMode mode = true ∧ 0 ≤ op ∧ op ≤ 7
      · rw [if_pos h, if_pos h]
        rfl
      · rw [if_neg h, if_neg h]
        rfl
    rw [due, cast_map] at q
    refine ⟨_, rfl, a, l, rfl, hS, hl, fun H0 f s0 nf hf => ?_⟩
    refine ⟨_, rfl, b, y, rfl, s0.seq hT, hy, fun H1 g s1 ng hg => ?_⟩
    refine ⟨_, rfl, c, z, rfl, s1.seq (s0.seq hU), hz, fun H2 h s2 nh hh => ?_⟩
    have ngf : g ≠ f := fun z => by
      rw [z, hf] at ng
      cases ng
    have nhf : h ≠ f := fun z => by
      rw [z, s1 _ _ hf] at nh
      cases nh
    have hf2 := s2 _ _ (s1 _ _ hf)
    have hg2 := s2 _ _ hg
    have no : ¬ (Sv03.isMode mode = true ∧ 0 ≤ op ∧ op ≤ 7) → Q (.ref f) H2 := fun z => by
      rw [if_neg z] at q
      exact q _ f hf2
    refine ⟨_, rfl, 0, op, rfl, rfl, _, rfl, ite2 (fun e1 => ?_) (fun e1 => ?_)⟩
    case refine_2 =>
      exact ⟨_, rfl, iteT ⟨_, rfl, no fun z => e1 (decide_eq_true z.2.1)⟩⟩
    refine ⟨op, 7, rfl, rfl, _, rfl, ite2 (fun e2 => ?_) (fun e2 => ?_)⟩
    · have e2 : ¬ op ≤ 7 := by simpa using e2
      exact iteT ⟨_, rfl, no fun z => e2 z.2.2⟩
    have h0 : 0 ≤ op := of_decide_eq_true e1
    have h7 : op ≤ 7 := by simpa using e2
    refine ⟨_, rfl, mode, rfl, _, rfl, ite2 (fun e3 => ?_) (fun e3 => ?_)⟩
    · have e3 : ¬ Sv03.isMode mode = true := by simpa using e3
      exact ⟨_, rfl, no fun z => e3 z.1⟩
    have em : Sv03.isMode mode = true := by simpa using e3
    rw [if_pos ⟨em, h0, h7⟩] at q
    obtain ⟨m, rfl, hm⟩ := isMode_nat em
    obtain ⟨o, rfl⟩ := Int.eq_ofNat_of_zero_le h0
    rw [Int.toNat_natCast, Int.toNat_natCast] at q
    refine ⟨32, rfl, by decide, by decide, for_range (n := 32) (fun i σ H3 => ∃ w, σ = [some (.int (k : Int)), some (.int (o : Int)), some (.int (m : Int)), some (.ref a), some (.ref b), some (.ref c), some (.ref f), some (.ref g), some (.ref h), w] ∧ H3 g = some (.lst ((Sv03.each (Sv03.at_ y)).map vN)) ∧ H3 h = some (.lst ((Sv03.each (Sv03.at_ z)).map vN)) ∧ H3 f = some (.lst ((part k l (fun i => Sv03.arith o m (Sv03.at_ l i) (Sv03.at_ y i) (Sv03.at_ z i)) i).map vN))) ⟨none, rfl, hg2, hh, by rw [part_zero]; exact hf2⟩ ?_ ?_⟩
    · rintro i σ H3 hi ⟨w, rfl, h3, h4, h5⟩
      rw [Int.zero_add]
      refine ⟨_, rfl, _, rfl, k, i, rfl, _, rfl, ite2 (fun ek => ?_) (fun ek => ?_)⟩
      · have g0 : ((part k l (fun i => Sv03.arith o m (Sv03.at_ l i) (Sv03.at_ y i) (Sv03.at_ z i)) i).map vN)[i]? = some (.int ((Sv03.at_ l i : Nat) : Int)) := by
          rw [List.getElem?_map, part_get hi]
          rfl
        have g1 : ((Sv03.each (Sv03.at_ y)).map vN)[i]? = some (.int ((Sv03.at_ y i : Nat) : Int)) := by
          rw [List.getElem?_map, each_get hi]
          rfl
        have g2 : ((Sv03.each (Sv03.at_ z)).map vN)[i]? = some (.int ((Sv03.at_ z i : Nat) : Int)) := by
          rw [List.getElem?_map, each_get hi]
          rfl
        refine ⟨_, rfl, _, rfl, _, rfl, _, rfl, f, _, (i : Int), _, rfl, rfl, SqL.of h5, atI_nat g0, _, rfl, _, rfl, g, _, (i : Int), _, rfl, rfl, SqL.of h3, atI_nat g1, _, rfl, _, rfl, h, _, (i : Int), _, rfl, rfl, SqL.of h4, atI_nat g2, o, m, Sv03.at_ l i, Sv03.at_ y i, Sv03.at_ z i, rfl, by omega, hm, at_lt (by decide) hb i, at_lt (by decide) hc i, at_lt (by decide) hd i, fun H4 s4 => ?_⟩
        refine ⟨_, rfl, _, rfl, f, _, _, i, rfl, rfl, s4 _ _ h5, ixN_row hi, _, rfl, by rw [upd_ne ngf]; exact s4 _ _ h3, by rw [upd_ne nhf]; exact s4 _ _ h4, ?_⟩
        rw [upd_same, part_in hi ek, List.map_set]
        rfl
      · exact ⟨_, rfl, h3, h4, by rw [part_out ek]; exact h5⟩
    · rintro σ H3 ⟨w, rfl, h3, h4, h5⟩
      rw [part_full] at h5
      exact ⟨_, rfl, q _ f h5⟩
end
theorem all_mk {P : Program} {w : World} {K : PySem.W.Frag} {h : Heap} {mg : Str → Option Value} {fa : Addr} (X : K.In h) (G : h.Ns mainGlobals mg) (hfa : mg "arith" = some (.ref fa))
    {f1 : Addr} {od1 an1 : Option Addr} {sl1 : Array (Option Value)} {oc1 kV1 dc1 pm1 cd1 ct1 : Value} {f2 : Addr} {od2 an2 : Option Addr} {sl2 : Array (Option Value)} {oc2 kV2 dc2 pm2 cd2 ct2 : Value} {f3 : Addr} {od3 an3 : Option Addr} {sl3 : Array (Option Value)} {oc3 kV3 dc3 pm3 cd3 ct3 : Value} {f4 : Addr} {od4 an4 : Option Addr} {sl4 : Array (Option Value)} {oc4 kV4 dc4 pm4 cd4 ct4 : Value} {f5 : Addr} {od5 an5 : Option Addr} {sl5 : Array (Option Value)} {oc5 kV5 dc5 pm5 cd5 ct5 : Value} {f6 : Addr} {od6 an6 : Option Addr} {sl6 : Array (Option Value)} {oc6 kV6 dc6 pm6 cd6 ct6 : Value} {f7 : Addr} {od7 an7 : Option Addr} {sl7 : Array (Option Value)} {oc7 kV7 dc7 pm7 cd7 ct7 : Value} {f8 : Addr} {od8 an8 : Option Addr} {sl8 : Array (Option Value)} {oc8 kV8 dc8 pm8 cd8 ct8 : Value} {f9 : Addr} {od9 an9 : Option Addr} {sl9 : Array (Option Value)} {oc9 kV9 dc9 pm9 cd9 ct9 : Value} {f10 : Addr} {od10 an10 : Option Addr} {sl10 : Array (Option Value)} {oc10 kV10 dc10 pm10 cd10 ct10 : Value} {f11 : Addr} {od11 an11 : Option Addr} {sl11 : Array (Option Value)} {oc11 kV11 dc11 pm11 cd11 ct11 : Value} {f12 : Addr} {od12 an12 : Option Addr} {sl12 : Array (Option Value)} {oc12 kV12 dc12 pm12 cd12 ct12 : Value} {f13 : Addr} {od13 an13 : Option Addr} {sl13 : Array (Option Value)} {oc13 kV13 dc13 pm13 cd13 ct13 : Value} {f14 : Addr} {od14 an14 : Option Addr} {sl14 : Array (Option Value)} {oc14 kV14 dc14 pm14 cd14 ct14 : Value} {f15 : Addr} {od15 an15 : Option Addr} {sl15 : Array (Option Value)} {oc15 kV15 dc15 pm15 cd15 ct15 : Value} {f16 : Addr} {od16 an16 : Option Addr} {sl16 : Array (Option Value)} {oc16 kV16 dc16 pm16 cd16 ct16 : Value} {f17 : Addr} {od17 an17 : Option Addr} {sl17 : Array (Option Value)} {oc17 kV17 dc17 pm17 cd17 ct17 : Value} {f18 : Addr} {od18 an18 : Option Addr} {sl18 : Array (Option Value)} {oc18 kV18 dc18 pm18 cd18 ct18 : Value} {f19 : Addr} {od19 an19 : Option Addr} {sl19 : Array (Option Value)} {oc19 kV19 dc19 pm19 cd19 ct19 : Value} {f20 : Addr} {od20 an20 : Option Addr} {sl20 : Array (Option Value)} {oc20 kV20 dc20 pm20 cd20 ct20 : Value} {f21 : Addr} {od21 an21 : Option Addr} {sl21 : Array (Option Value)} {oc21 kV21 dc21 pm21 cd21 ct21 : Value} {f22 : Addr} {od22 an22 : Option Addr} {sl22 : Array (Option Value)} {oc22 kV22 dc22 pm22 cd22 ct22 : Value} {f23 : Addr} {od23 an23 : Option Addr} {sl23 : Array (Option Value)} {oc23 kV23 dc23 pm23 cd23 ct23 : Value} {f24 : Addr} {od24 an24 : Option Addr} {sl24 : Array (Option Value)} {oc24 kV24 dc24 pm24 cd24 ct24 : Value} {f25 : Addr} {od25 an25 : Option Addr} {sl25 : Array (Option Value)} {oc25 kV25 dc25 pm25 cd25 ct25 : Value} {f26 : Addr} {od26 an26 : Option Addr} {sl26 : Array (Option Value)} {oc26 kV26 dc26 pm26 cd26 ct26 : Value} {f27 : Addr} {od27 an27 : Option Addr} {sl27 : Array (Option Value)} {oc27 kV27 dc27 pm27 cd27 ct27 : Value} {f28 : Addr} {od28 an28 : Option Addr} {sl28 : Array (Option Value)} {oc28 kV28 dc28 pm28 cd28 ct28 : Value} {f29 : Addr} {od29 an29 : Option Addr} {sl29 : Array (Option Value)} {oc29 kV29 dc29 pm29 cd29 ct29 : Value} {f30 : Addr} {od30 an30 : Option Addr} {sl30 : Array (Option Value)} {oc30 kV30 dc30 pm30 cd30 ct30 : Value} {f31 : Addr} {od31 an31 : Option Addr} {sl31 : Array (Option Value)} {oc31 kV31 dc31 pm31 cd31 ct31 : Value} {f32 : Addr} {od32 an32 : Option Addr} {sl32 : Array (Option Value)} {oc32 kV32 dc32 pm32 cd32 ct32 : Value} {t1 : Tok} {t2 : Tok} {t3 : Tok} {t4 : Tok} {t5 : Tok} {t6 : Tok} {t7 : Tok} {t8 : Tok} {t9 : Tok} {t10 : Tok} {t11 : Tok} {t12 : Tok} {t13 : Tok} {t14 : Tok} {t15 : Tok} {t16 : Tok}
    (a1 : PySem.W.nsIn K mainGlobals "is_negative" = some (some (.ref f1))) (l1 : K.lookup f1 = some ⟨oc1, od1, .func (PySem.W.fnOf "is_negative" "is_negative" (defArgs s_is_negative) (defBody s_is_negative) (defScope s_is_negative) .none kV1 dc1 pm1 an1 cd1 ct1), sl1⟩) (k1 : PySem.W.codeIn K cd1 "is_negative" = true) (p1 : PySem.W.keepIn K (.ref f1) = true) (a2 : PySem.W.nsIn K mainGlobals "size_bits" = some (some (.ref f2))) (l2 : K.lookup f2 = some ⟨oc2, od2, .func (PySem.W.fnOf "size_bits" "size_bits" (defArgs s_size_bits) (defBody s_size_bits) (defScope s_size_bits) .none kV2 dc2 pm2 an2 cd2 ct2), sl2⟩) (k2 : PySem.W.codeIn K cd2 "size_bits" = true) (p2 : PySem.W.keepIn K (.ref f2) = true) (a3 : PySem.W.nsIn K mainGlobals "is_nan" = some (some (.ref f3))) (l3 : K.lookup f3 = some ⟨oc3, od3, .func (PySem.W.fnOf "is_nan" "is_nan" (defArgs s_is_nan) (defBody s_is_nan) (defScope s_is_nan) .none kV3 dc3 pm3 an3 cd3 ct3), sl3⟩) (k3 : PySem.W.codeIn K cd3 "is_nan" = true) (p3 : PySem.W.keepIn K (.ref f3) = true) (a4 : PySem.W.nsIn K mainGlobals "is_infinite" = some (some (.ref f4))) (l4 : K.lookup f4 = some ⟨oc4, od4, .func (PySem.W.fnOf "is_infinite" "is_infinite" (defArgs s_is_infinite) (defBody s_is_infinite) (defScope s_is_infinite) .none kV4 dc4 pm4 an4 cd4 ct4), sl4⟩) (k4 : PySem.W.codeIn K cd4 "is_infinite" = true) (p4 : PySem.W.keepIn K (.ref f4) = true) (a5 : PySem.W.nsIn K mainGlobals "is_zero" = some (some (.ref f5))) (l5 : K.lookup f5 = some ⟨oc5, od5, .func (PySem.W.fnOf "is_zero" "is_zero" (defArgs s_is_zero) (defBody s_is_zero) (defScope s_is_zero) .none kV5 dc5 pm5 an5 cd5 ct5), sl5⟩) (k5 : PySem.W.codeIn K cd5 "is_zero" = true) (p5 : PySem.W.keepIn K (.ref f5) = true) (a6 : PySem.W.nsIn K mainGlobals "units" = some (some (.ref f6))) (l6 : K.lookup f6 = some ⟨oc6, od6, .func (PySem.W.fnOf "units" "units" (defArgs s_units) (defBody s_units) (defScope s_units) .none kV6 dc6 pm6 an6 cd6 ct6), sl6⟩) (k6 : PySem.W.codeIn K cd6 "units" = true) (p6 : PySem.W.keepIn K (.ref f6) = true) (a7 : PySem.W.nsIn K mainGlobals "signed_units" = some (some (.ref f7))) (l7 : K.lookup f7 = some ⟨oc7, od7, .func (PySem.W.fnOf "signed_units" "signed_units" (defArgs s_signed_units) (defBody s_signed_units) (defScope s_signed_units) .none kV7 dc7 pm7 an7 cd7 ct7), sl7⟩) (k7 : PySem.W.codeIn K cd7 "signed_units" = true) (p7 : PySem.W.keepIn K (.ref f7) = true) (a8 : PySem.W.nsIn K mainGlobals "length_of" = some (some (.ref f8))) (l8 : K.lookup f8 = some ⟨oc8, od8, .func (PySem.W.fnOf "length_of" "length_of" (defArgs s_length_of) (defBody s_length_of) (defScope s_length_of) .none kV8 dc8 pm8 an8 cd8 ct8), sl8⟩) (k8 : PySem.W.codeIn K cd8 "length_of" = true) (p8 : PySem.W.keepIn K (.ref f8) = true) (a9 : PySem.W.nsIn K mainGlobals "size_of_units" = some (some (.ref f9))) (l9 : K.lookup f9 = some ⟨oc9, od9, .func (PySem.W.fnOf "size_of_units" "size_of_units" (defArgs s_size_of_units) (defBody s_size_of_units) (defScope s_size_of_units) .none kV9 dc9 pm9 an9 cd9 ct9), sl9⟩) (k9 : PySem.W.codeIn K cd9 "size_of_units" = true) (p9 : PySem.W.keepIn K (.ref f9) = true) (a10 : PySem.W.nsIn K mainGlobals "with_sign" = some (some (.ref f10))) (l10 : K.lookup f10 = some ⟨oc10, od10, .func (PySem.W.fnOf "with_sign" "with_sign" (defArgs s_with_sign) (defBody s_with_sign) (defScope s_with_sign) .none kV10 dc10 pm10 an10 cd10 ct10), sl10⟩) (k10 : PySem.W.codeIn K cd10 "with_sign" = true) (p10 : PySem.W.keepIn K (.ref f10) = true) (a11 : PySem.W.nsIn K mainGlobals "goes_up" = some (some (.ref f11))) (l11 : K.lookup f11 = some ⟨oc11, od11, .func (PySem.W.fnOf "goes_up" "goes_up" (defArgs s_goes_up) (defBody s_goes_up) (defScope s_goes_up) .none kV11 dc11 pm11 an11 cd11 ct11), sl11⟩) (k11 : PySem.W.codeIn K cd11 "goes_up" = true) (p11 : PySem.W.keepIn K (.ref f11) = true) (a12 : PySem.W.nsIn K mainGlobals "rounded_whole" = some (some (.ref f12))) (l12 : K.lookup f12 = some ⟨oc12, od12, .func (PySem.W.fnOf "rounded_whole" "rounded_whole" (defArgs s_rounded_whole) (defBody s_rounded_whole) (defScope s_rounded_whole) .none kV12 dc12 pm12 an12 cd12 ct12), sl12⟩) (k12 : PySem.W.codeIn K cd12 "rounded_whole" = true) (p12 : PySem.W.keepIn K (.ref f12) = true) (a13 : PySem.W.nsIn K mainGlobals "beyond" = some (some (.ref f13))) (l13 : K.lookup f13 = some ⟨oc13, od13, .func (PySem.W.fnOf "beyond" "beyond" (defArgs s_beyond) (defBody s_beyond) (defScope s_beyond) .none kV13 dc13 pm13 an13 cd13 ct13), sl13⟩) (k13 : PySem.W.codeIn K cd13 "beyond" = true) (p13 : PySem.W.keepIn K (.ref f13) = true) (a14 : PySem.W.nsIn K mainGlobals "rounded" = some (some (.ref f14))) (l14 : K.lookup f14 = some ⟨oc14, od14, .func (PySem.W.fnOf "rounded" "rounded" (defArgs s_rounded) (defBody s_rounded) (defScope s_rounded) .none kV14 dc14 pm14 an14 cd14 ct14), sl14⟩) (k14 : PySem.W.codeIn K cd14 "rounded" = true) (p14 : PySem.W.keepIn K (.ref f14) = true) (a15 : PySem.W.nsIn K mainGlobals "place_in_order" = some (some (.ref f15))) (l15 : K.lookup f15 = some ⟨oc15, od15, .func (PySem.W.fnOf "place_in_order" "place_in_order" (defArgs s_place_in_order) (defBody s_place_in_order) (defScope s_place_in_order) .none kV15 dc15 pm15 an15 cd15 ct15), sl15⟩) (k15 : PySem.W.codeIn K cd15 "place_in_order" = true) (p15 : PySem.W.keepIn K (.ref f15) = true) (a16 : PySem.W.nsIn K mainGlobals "zero_sum" = some (some (.ref f16))) (l16 : K.lookup f16 = some ⟨oc16, od16, .func (PySem.W.fnOf "zero_sum" "zero_sum" (defArgs s_zero_sum) (defBody s_zero_sum) (defScope s_zero_sum) .none kV16 dc16 pm16 an16 cd16 ct16), sl16⟩) (k16 : PySem.W.codeIn K cd16 "zero_sum" = true) (p16 : PySem.W.keepIn K (.ref f16) = true) (a17 : PySem.W.nsIn K mainGlobals "signed_half" = some (some (.ref f17))) (l17 : K.lookup f17 = some ⟨oc17, od17, .func (PySem.W.fnOf "signed_half" "signed_half" (defArgs s_signed_half) (defBody s_signed_half) (defScope s_signed_half) .none kV17 dc17 pm17 an17 cd17 ct17), sl17⟩) (k17 : PySem.W.codeIn K cd17 "signed_half" = true) (p17 : PySem.W.keepIn K (.ref f17) = true) (a18 : PySem.W.nsIn K mainGlobals "added" = some (some (.ref f18))) (l18 : K.lookup f18 = some ⟨oc18, od18, .func (PySem.W.fnOf "added" "added" (defArgs s_added) (defBody s_added) (defScope s_added) .none kV18 dc18 pm18 an18 cd18 ct18), sl18⟩) (k18 : PySem.W.codeIn K cd18 "added" = true) (p18 : PySem.W.keepIn K (.ref f18) = true) (a19 : PySem.W.nsIn K mainGlobals "contrary" = some (some (.ref f19))) (l19 : K.lookup f19 = some ⟨oc19, od19, .func (PySem.W.fnOf "contrary" "contrary" (defArgs s_contrary) (defBody s_contrary) (defScope s_contrary) .none kV19 dc19 pm19 an19 cd19 ct19), sl19⟩) (k19 : PySem.W.codeIn K cd19 "contrary" = true) (p19 : PySem.W.keepIn K (.ref f19) = true) (a20 : PySem.W.nsIn K mainGlobals "is_product_negative" = some (some (.ref f20))) (l20 : K.lookup f20 = some ⟨oc20, od20, .func (PySem.W.fnOf "is_product_negative" "is_product_negative" (defArgs s_is_product_negative) (defBody s_is_product_negative) (defScope s_is_product_negative) .none kV20 dc20 pm20 an20 cd20 ct20), sl20⟩) (k20 : PySem.W.codeIn K cd20 "is_product_negative" = true) (p20 : PySem.W.keepIn K (.ref f20) = true) (a21 : PySem.W.nsIn K mainGlobals "has_no_product" = some (some (.ref f21))) (l21 : K.lookup f21 = some ⟨oc21, od21, .func (PySem.W.fnOf "has_no_product" "has_no_product" (defArgs s_has_no_product) (defBody s_has_no_product) (defScope s_has_no_product) .none kV21 dc21 pm21 an21 cd21 ct21), sl21⟩) (k21 : PySem.W.codeIn K cd21 "has_no_product" = true) (p21 : PySem.W.keepIn K (.ref f21) = true) (a22 : PySem.W.nsIn K mainGlobals "multiplied" = some (some (.ref f22))) (l22 : K.lookup f22 = some ⟨oc22, od22, .func (PySem.W.fnOf "multiplied" "multiplied" (defArgs s_multiplied) (defBody s_multiplied) (defScope s_multiplied) .none kV22 dc22 pm22 an22 cd22 ct22), sl22⟩) (k22 : PySem.W.codeIn K cd22 "multiplied" = true) (p22 : PySem.W.keepIn K (.ref f22) = true) (a23 : PySem.W.nsIn K mainGlobals "divided" = some (some (.ref f23))) (l23 : K.lookup f23 = some ⟨oc23, od23, .func (PySem.W.fnOf "divided" "divided" (defArgs s_divided) (defBody s_divided) (defScope s_divided) .none kV23 dc23 pm23 an23 cd23 ct23), sl23⟩) (k23 : PySem.W.codeIn K cd23 "divided" = true) (p23 : PySem.W.keepIn K (.ref f23) = true) (a24 : PySem.W.nsIn K mainGlobals "whole_root" = some (some (.ref f24))) (l24 : K.lookup f24 = some ⟨oc24, od24, .func (PySem.W.fnOf "whole_root" "whole_root" (defArgs s_whole_root) (defBody s_whole_root) (defScope s_whole_root) .none kV24 dc24 pm24 an24 cd24 ct24), sl24⟩) (k24 : PySem.W.codeIn K cd24 "whole_root" = true) (p24 : PySem.W.keepIn K (.ref f24) = true) (a25 : PySem.W.nsIn K mainGlobals "rooted" = some (some (.ref f25))) (l25 : K.lookup f25 = some ⟨oc25, od25, .func (PySem.W.fnOf "rooted" "rooted" (defArgs s_rooted) (defBody s_rooted) (defScope s_rooted) .none kV25 dc25 pm25 an25 cd25 ct25), sl25⟩) (k25 : PySem.W.codeIn K cd25 "rooted" = true) (p25 : PySem.W.keepIn K (.ref f25) = true) (a26 : PySem.W.nsIn K mainGlobals "multiplied_and_added" = some (some (.ref f26))) (l26 : K.lookup f26 = some ⟨oc26, od26, .func (PySem.W.fnOf "multiplied_and_added" "multiplied_and_added" (defArgs s_multiplied_and_added) (defBody s_multiplied_and_added) (defScope s_multiplied_and_added) .none kV26 dc26 pm26 an26 cd26 ct26), sl26⟩) (k26 : PySem.W.codeIn K cd26 "multiplied_and_added" = true) (p26 : PySem.W.keepIn K (.ref f26) = true) (a27 : PySem.W.nsIn K mainGlobals "operands_used" = some (some (.ref f27))) (l27 : K.lookup f27 = some ⟨oc27, od27, .func (PySem.W.fnOf "operands_used" "operands_used" (defArgs s_operands_used) (defBody s_operands_used) (defScope s_operands_used) .none kV27 dc27 pm27 an27 cd27 ct27), sl27⟩) (k27 : PySem.W.codeIn K cd27 "operands_used" = true) (p27 : PySem.W.keepIn K (.ref f27) = true) (a28 : PySem.W.nsIn K mainGlobals "computed" = some (some (.ref f28))) (l28 : K.lookup f28 = some ⟨oc28, od28, .func (PySem.W.fnOf "computed" "computed" (defArgs s_computed) (defBody s_computed) (defScope s_computed) .none kV28 dc28 pm28 an28 cd28 ct28), sl28⟩) (k28 : PySem.W.codeIn K cd28 "computed" = true) (p28 : PySem.W.keepIn K (.ref f28) = true) (a29 : PySem.W.nsIn K mainGlobals "row_of" = some (some (.ref f29))) (l29 : K.lookup f29 = some ⟨oc29, od29, .func (PySem.W.fnOf "row_of" "row_of" (defArgs s_row_of) (defBody s_row_of) (defScope s_row_of) .none kV29 dc29 pm29 an29 cd29 ct29), sl29⟩) (k29 : PySem.W.codeIn K cd29 "row_of" = true) (p29 : PySem.W.keepIn K (.ref f29) = true) (a30 : PySem.W.nsIn K mainGlobals "is_in" = some (some (.ref f30))) (l30 : K.lookup f30 = some ⟨oc30, od30, .func (PySem.W.fnOf "is_in" "is_in" (defArgs s_is_in) (defBody s_is_in) (defScope s_is_in) .none kV30 dc30 pm30 an30 cd30 ct30), sl30⟩) (k30 : PySem.W.codeIn K cd30 "is_in" = true) (p30 : PySem.W.keepIn K (.ref f30) = true) (a31 : PySem.W.nsIn K mainGlobals "is_mode" = some (some (.ref f31))) (l31 : K.lookup f31 = some ⟨oc31, od31, .func (PySem.W.fnOf "is_mode" "is_mode" (defArgs s_is_mode) (defBody s_is_mode) (defScope s_is_mode) .none kV31 dc31 pm31 an31 cd31 ct31), sl31⟩) (k31 : PySem.W.codeIn K cd31 "is_mode" = true) (p31 : PySem.W.keepIn K (.ref f31) = true) (a32 : PySem.W.nsIn K mainGlobals "arith" = some (some (.ref f32))) (l32 : K.lookup f32 = some ⟨oc32, od32, .func (PySem.W.fnOf "arith" "arith" (defArgs s_arith) (defBody s_arith) (defScope s_arith) .none kV32 dc32 pm32 an32 cd32 ct32), sl32⟩) (k32 : PySem.W.codeIn K cd32 "arith" = true) (p32 : PySem.W.keepIn K (.ref f32) = true) (g_SIGN : PySem.W.nsIn K mainGlobals "SIGN" = some (some (.int 32768 t1))) (g_INFINITY : PySem.W.nsIn K mainGlobals "INFINITY" = some (some (.int 31744 t2))) (g_NAN : PySem.W.nsIn K mainGlobals "NAN" = some (some (.int 32256 t3))) (g_LARGEST : PySem.W.nsIn K mainGlobals "LARGEST" = some (some (.int 31743 t4))) (g_FRACTION : PySem.W.nsIn K mainGlobals "FRACTION" = some (some (.int 1024 t5))) (g_UNIT_BITS : PySem.W.nsIn K mainGlobals "UNIT_BITS" = some (some (.int 24 t6))) (g_PRECISION : PySem.W.nsIn K mainGlobals "PRECISION" = some (some (.int 11 t7))) (g_MOST_UNITS : PySem.W.nsIn K mainGlobals "MOST_UNITS" = some (some (.int 1098974756864 t8))) (g_NEAREST : PySem.W.nsIn K mainGlobals "NEAREST" = some (some (.int 0 t9))) (g_DOWN : PySem.W.nsIn K mainGlobals "DOWN" = some (some (.int 1 t10))) (g_UP : PySem.W.nsIn K mainGlobals "UP" = some (some (.int 2 t11))) (g_MODES : PySem.W.nsIn K mainGlobals "MODES" = some (some (.int 4 t12))) (g_ROOT_BITS : PySem.W.nsIn K mainGlobals "ROOT_BITS" = some (some (.int 4 t13))) (g_TOP : PySem.W.nsIn K mainGlobals "TOP" = some (some (.int 16777216 t14))) (g_LANES : PySem.W.nsIn K mainGlobals "LANES" = some (some (.int 32 t15))) (g_LAST_OP : PySem.W.nsIn K mainGlobals "LAST_OP" = some (some (.int 7 t16))) (z_abs : PySem.W.nsIn K mainGlobals "abs" = some none) (z_any : PySem.W.nsIn K mainGlobals "any" = some none) (z_int : PySem.W.nsIn K mainGlobals "int" = some none) (z_len : PySem.W.nsIn K mainGlobals "len" = some none) (z_max : PySem.W.nsIn K mainGlobals "max" = some none) (z_range : PySem.W.nsIn K mainGlobals "range" = some none) :
    ∃ fd : FuncData, (∀ (s : Shared) (us : List Value), us.length = (["k", "op", "mode", "a", "b", "c"] : List Str).length → BindsTo s fd ⟨us, []⟩ ((["k", "op", "mode", "a", "b", "c"] : List Str).zip us)) ∧ ∀ base : Heap, K.In base → base.Ns mainGlobals mg → FnOk P w K mg base CX0 8 fa fd ["k", "op", "mode", "a", "b", "c"] (sp_arith K) := by
  have c_SIGN : Cst mg "SIGN" (.int 32768) := ⟨_, PySem.W.mg_of X G g_SIGN, ⟨_, rfl⟩⟩
  have c_INFINITY : Cst mg "INFINITY" (.int 31744) := ⟨_, PySem.W.mg_of X G g_INFINITY, ⟨_, rfl⟩⟩
  have c_NAN : Cst mg "NAN" (.int 32256) := ⟨_, PySem.W.mg_of X G g_NAN, ⟨_, rfl⟩⟩
  have c_LARGEST : Cst mg "LARGEST" (.int 31743) := ⟨_, PySem.W.mg_of X G g_LARGEST, ⟨_, rfl⟩⟩
  have c_FRACTION : Cst mg "FRACTION" (.int 1024) := ⟨_, PySem.W.mg_of X G g_FRACTION, ⟨_, rfl⟩⟩
  have c_UNIT_BITS : Cst mg "UNIT_BITS" (.int 24) := ⟨_, PySem.W.mg_of X G g_UNIT_BITS, ⟨_, rfl⟩⟩
  have c_PRECISION : Cst mg "PRECISION" (.int 11) := ⟨_, PySem.W.mg_of X G g_PRECISION, ⟨_, rfl⟩⟩
  have c_MOST_UNITS : Cst mg "MOST_UNITS" (.int 1098974756864) := ⟨_, PySem.W.mg_of X G g_MOST_UNITS, ⟨_, rfl⟩⟩
  have c_NEAREST : Cst mg "NEAREST" (.int 0) := ⟨_, PySem.W.mg_of X G g_NEAREST, ⟨_, rfl⟩⟩
  have c_DOWN : Cst mg "DOWN" (.int 1) := ⟨_, PySem.W.mg_of X G g_DOWN, ⟨_, rfl⟩⟩
  have c_UP : Cst mg "UP" (.int 2) := ⟨_, PySem.W.mg_of X G g_UP, ⟨_, rfl⟩⟩
  have c_MODES : Cst mg "MODES" (.int 4) := ⟨_, PySem.W.mg_of X G g_MODES, ⟨_, rfl⟩⟩
  have c_ROOT_BITS : Cst mg "ROOT_BITS" (.int 4) := ⟨_, PySem.W.mg_of X G g_ROOT_BITS, ⟨_, rfl⟩⟩
  have c_TOP : Cst mg "TOP" (.int 16777216) := ⟨_, PySem.W.mg_of X G g_TOP, ⟨_, rfl⟩⟩
  have c_LANES : Cst mg "LANES" (.int 32) := ⟨_, PySem.W.mg_of X G g_LANES, ⟨_, rfl⟩⟩
  have c_LAST_OP : Cst mg "LAST_OP" (.int 7) := ⟨_, PySem.W.mg_of X G g_LAST_OP, ⟨_, rfl⟩⟩
  have y_abs := PySem.W.mg_none_of X G z_abs
  have y_any := PySem.W.mg_none_of X G z_any
  have y_int := PySem.W.mg_none_of X G z_int
  have y_len := PySem.W.mg_none_of X G z_len
  have y_max := PySem.W.mg_none_of X G z_max
  have y_range := PySem.W.mg_none_of X G z_range
  have R_is_negative : Raw K mg "is_negative" s_is_negative ["bits"] := raw_mk X G a1 l1 k1 p1 fun _ _ _ _ _ _ us hl => match us, hl with | [_], _ => rfl
  have R_size_bits : Raw K mg "size_bits" s_size_bits ["bits"] := raw_mk X G a2 l2 k2 p2 fun _ _ _ _ _ _ us hl => match us, hl with | [_], _ => rfl
  have R_is_nan : Raw K mg "is_nan" s_is_nan ["bits"] := raw_mk X G a3 l3 k3 p3 fun _ _ _ _ _ _ us hl => match us, hl with | [_], _ => rfl
  have R_is_infinite : Raw K mg "is_infinite" s_is_infinite ["bits"] := raw_mk X G a4 l4 k4 p4 fun _ _ _ _ _ _ us hl => match us, hl with | [_], _ => rfl
  have R_is_zero : Raw K mg "is_zero" s_is_zero ["bits"] := raw_mk X G a5 l5 k5 p5 fun _ _ _ _ _ _ us hl => match us, hl with | [_], _ => rfl
  have R_units : Raw K mg "units" s_units ["bits"] := raw_mk X G a6 l6 k6 p6 fun _ _ _ _ _ _ us hl => match us, hl with | [_], _ => rfl
  have R_signed_units : Raw K mg "signed_units" s_signed_units ["bits"] := raw_mk X G a7 l7 k7 p7 fun _ _ _ _ _ _ us hl => match us, hl with | [_], _ => rfl
  have R_length_of : Raw K mg "length_of" s_length_of ["number"] := raw_mk X G a8 l8 k8 p8 fun _ _ _ _ _ _ us hl => match us, hl with | [_], _ => rfl
  have R_size_of_units : Raw K mg "size_of_units" s_size_of_units ["many"] := raw_mk X G a9 l9 k9 p9 fun _ _ _ _ _ _ us hl => match us, hl with | [_], _ => rfl
  have R_with_sign : Raw K mg "with_sign" s_with_sign ["size", "negative"] := raw_mk X G a10 l10 k10 p10 fun _ _ _ _ _ _ us hl => match us, hl with | [_, _], _ => rfl
  have R_goes_up : Raw K mg "goes_up" s_goes_up ["whole", "rest", "part", "negative", "mode"] := raw_mk X G a11 l11 k11 p11 fun _ _ _ _ _ _ us hl => match us, hl with | [_, _, _, _, _], _ => rfl
  have R_rounded_whole : Raw K mg "rounded_whole" s_rounded_whole ["top", "bottom", "negative", "mode"] := raw_mk X G a12 l12 k12 p12 fun _ _ _ _ _ _ us hl => match us, hl with | [_, _, _, _], _ => rfl
  have R_beyond : Raw K mg "beyond" s_beyond ["negative", "mode"] := raw_mk X G a13 l13 k13 p13 fun _ _ _ _ _ _ us hl => match us, hl with | [_, _], _ => rfl
  have R_rounded : Raw K mg "rounded" s_rounded ["top", "bottom", "negative", "mode"] := raw_mk X G a14 l14 k14 p14 fun _ _ _ _ _ _ us hl => match us, hl with | [_, _, _, _], _ => rfl
  have R_place_in_order : Raw K mg "place_in_order" s_place_in_order ["bits"] := raw_mk X G a15 l15 k15 p15 fun _ _ _ _ _ _ us hl => match us, hl with | [_], _ => rfl
  have R_zero_sum : Raw K mg "zero_sum" s_zero_sum ["first", "second", "mode"] := raw_mk X G a16 l16 k16 p16 fun _ _ _ _ _ _ us hl => match us, hl with | [_, _, _], _ => rfl
  have R_signed_half : Raw K mg "signed_half" s_signed_half ["number", "bottom", "mode"] := raw_mk X G a17 l17 k17 p17 fun _ _ _ _ _ _ us hl => match us, hl with | [_, _, _], _ => rfl
  have R_added : Raw K mg "added" s_added ["x", "y", "mode"] := raw_mk X G a18 l18 k18 p18 fun _ _ _ _ _ _ us hl => match us, hl with | [_, _, _], _ => rfl
  have R_contrary : Raw K mg "contrary" s_contrary ["bits"] := raw_mk X G a19 l19 k19 p19 fun _ _ _ _ _ _ us hl => match us, hl with | [_], _ => rfl
  have R_is_product_negative : Raw K mg "is_product_negative" s_is_product_negative ["x", "y"] := raw_mk X G a20 l20 k20 p20 fun _ _ _ _ _ _ us hl => match us, hl with | [_, _], _ => rfl
  have R_has_no_product : Raw K mg "has_no_product" s_has_no_product ["x", "y"] := raw_mk X G a21 l21 k21 p21 fun _ _ _ _ _ _ us hl => match us, hl with | [_, _], _ => rfl
  have R_multiplied : Raw K mg "multiplied" s_multiplied ["x", "y", "mode"] := raw_mk X G a22 l22 k22 p22 fun _ _ _ _ _ _ us hl => match us, hl with | [_, _, _], _ => rfl
  have R_divided : Raw K mg "divided" s_divided ["x", "y", "mode"] := raw_mk X G a23 l23 k23 p23 fun _ _ _ _ _ _ us hl => match us, hl with | [_, _, _], _ => rfl
  have R_whole_root : Raw K mg "whole_root" s_whole_root ["number"] := raw_mk X G a24 l24 k24 p24 fun _ _ _ _ _ _ us hl => match us, hl with | [_], _ => rfl
  have R_rooted : Raw K mg "rooted" s_rooted ["x", "mode"] := raw_mk X G a25 l25 k25 p25 fun _ _ _ _ _ _ us hl => match us, hl with | [_, _], _ => rfl
  have R_multiplied_and_added : Raw K mg "multiplied_and_added" s_multiplied_and_added ["x", "y", "z", "mode"] := raw_mk X G a26 l26 k26 p26 fun _ _ _ _ _ _ us hl => match us, hl with | [_, _, _, _], _ => rfl
  have R_operands_used : Raw K mg "operands_used" s_operands_used ["op", "x", "y", "z"] := raw_mk X G a27 l27 k27 p27 fun _ _ _ _ _ _ us hl => match us, hl with | [_, _, _, _], _ => rfl
  have R_computed : Raw K mg "computed" s_computed ["op", "mode", "x", "y", "z"] := raw_mk X G a28 l28 k28 p28 fun _ _ _ _ _ _ us hl => match us, hl with | [_, _, _, _, _], _ => rfl
  have R_row_of : Raw K mg "row_of" s_row_of ["some"] := raw_mk X G a29 l29 k29 p29 fun _ _ _ _ _ _ us hl => match us, hl with | [_], _ => rfl
  have R_is_in : Raw K mg "is_in" s_is_in ["k", "lane"] := raw_mk X G a30 l30 k30 p30 fun _ _ _ _ _ _ us hl => match us, hl with | [_, _], _ => rfl
  have R_is_mode : Raw K mg "is_mode" s_is_mode ["mode"] := raw_mk X G a31 l31 k31 p31 fun _ _ _ _ _ _ us hl => match us, hl with | [_], _ => rfl
  have R_arith : Raw K mg "arith" s_arith ["k", "op", "mode", "a", "b", "c"] := raw_mk X G a32 l32 k32 p32 fun _ _ _ _ _ _ us hl => match us, hl with | [_, _, _, _, _, _], _ => rfl
  have F0 := R_arith
  have e := hfa.symm.trans (PySem.W.mg_of X G a32)
  cases e
  refine ⟨PySem.W.fnOf "arith" "arith" (defArgs s_arith) (defBody s_arith) (defScope s_arith) .none kV32 dc32 pm32 an32 cd32 ct32, fun s us hu => match us, hu with | [_, _, _, _, _, _], _ => .of_eq rfl, fun base kb nb => ?_⟩
  have d_is_negative : Def P w K mg base 1 "is_negative" ["bits"] sp_is_negative := ok_is_negative R_is_negative c_SIGN
  have d_size_bits : Def P w K mg base 1 "size_bits" ["bits"] sp_size_bits := ok_size_bits R_size_bits c_SIGN
  have d_is_nan : Def P w K mg base 2 "is_nan" ["bits"] sp_is_nan := ok_is_nan R_is_nan d_size_bits c_INFINITY
  have d_is_infinite : Def P w K mg base 2 "is_infinite" ["bits"] sp_is_infinite := ok_is_infinite R_is_infinite d_size_bits c_INFINITY
  have d_is_zero : Def P w K mg base 2 "is_zero" ["bits"] sp_is_zero := ok_is_zero R_is_zero d_size_bits
  have d_units : Def P w K mg base 2 "units" ["bits"] sp_units := ok_units R_units d_size_bits c_FRACTION
  have d_signed_units : Def P w K mg base 3 "signed_units" ["bits"] sp_signed_units := ok_signed_units R_signed_units d_units d_is_negative
  have d_length_of : Def P w K mg base 1 "length_of" ["number"] sp_length_of := ok_length_of R_length_of
  have d_size_of_units : Def P w K mg base 2 "size_of_units" ["many"] sp_size_of_units := ok_size_of_units R_size_of_units d_length_of c_FRACTION c_PRECISION
  have d_with_sign : Def P w K mg base 1 "with_sign" ["size", "negative"] sp_with_sign := ok_with_sign R_with_sign c_SIGN y_int
  have d_goes_up : Def P w K mg base 1 "goes_up" ["whole", "rest", "part", "negative", "mode"] sp_goes_up := ok_goes_up R_goes_up c_UP c_DOWN c_NEAREST
  have d_rounded_whole : Def P w K mg base 2 "rounded_whole" ["top", "bottom", "negative", "mode"] sp_rounded_whole := ok_rounded_whole R_rounded_whole d_goes_up y_int
  have d_beyond : Def P w K mg base 2 "beyond" ["negative", "mode"] sp_beyond := ok_beyond R_beyond d_with_sign c_LARGEST c_UP c_DOWN c_NEAREST c_INFINITY
  have d_rounded : Def P w K mg base 3 "rounded" ["top", "bottom", "negative", "mode"] sp_rounded := ok_rounded R_rounded d_with_sign d_size_of_units d_beyond d_rounded_whole d_length_of c_MOST_UNITS c_PRECISION y_max
  have d_place_in_order : Def P w K mg base 2 "place_in_order" ["bits"] sp_place_in_order := ok_place_in_order R_place_in_order d_is_negative d_size_bits
  have d_zero_sum : Def P w K mg base 2 "zero_sum" ["first", "second", "mode"] sp_zero_sum := ok_zero_sum R_zero_sum d_with_sign c_DOWN
  have d_signed_half : Def P w K mg base 4 "signed_half" ["number", "bottom", "mode"] sp_signed_half := ok_signed_half R_signed_half d_rounded y_abs
  have d_added : Def P w K mg base 5 "added" ["x", "y", "mode"] sp_added := ok_added R_added d_signed_half d_zero_sum d_is_negative d_signed_units d_is_infinite c_NAN
  have d_contrary : Def P w K mg base 2 "contrary" ["bits"] sp_contrary := ok_contrary R_contrary d_with_sign d_is_negative
  have d_is_product_negative : Def P w K mg base 2 "is_product_negative" ["x", "y"] sp_is_product_negative := ok_is_product_negative R_is_product_negative d_is_negative
  have d_has_no_product : Def P w K mg base 3 "has_no_product" ["x", "y"] sp_has_no_product := ok_has_no_product R_has_no_product d_is_infinite d_is_zero
  have d_multiplied : Def P w K mg base 4 "multiplied" ["x", "y", "mode"] sp_multiplied := ok_multiplied R_multiplied d_rounded d_units d_is_infinite d_with_sign d_has_no_product d_is_product_negative c_TOP c_INFINITY c_NAN
  have d_divided : Def P w K mg base 4 "divided" ["x", "y", "mode"] sp_divided := ok_divided R_divided d_rounded d_units d_is_infinite d_with_sign d_is_zero d_is_product_negative c_UNIT_BITS c_INFINITY c_NAN
  have d_whole_root : Def P w K mg base 1 "whole_root" ["number"] sp_whole_root := ok_whole_root R_whole_root y_range
  have d_rooted : Def P w K mg base 4 "rooted" ["x", "mode"] sp_rooted := ok_rooted R_rooted d_rounded d_whole_root d_units d_is_infinite d_is_negative d_is_zero c_ROOT_BITS c_UNIT_BITS c_NAN y_int
  have d_multiplied_and_added : Def P w K mg base 6 "multiplied_and_added" ["x", "y", "z", "mode"] sp_multiplied_and_added := ok_multiplied_and_added R_multiplied_and_added d_signed_half d_zero_sum d_is_negative d_signed_units d_is_infinite d_added d_with_sign d_has_no_product d_is_product_negative c_TOP c_INFINITY c_NAN
  have d_operands_used : Def P w K mg base 1 "operands_used" ["op", "x", "y", "z"] sp_operands_used := ok_operands_used R_operands_used
  have d_computed : Def P w K mg base 7 "computed" ["op", "mode", "x", "y", "z"] sp_computed := ok_computed R_computed d_place_in_order d_multiplied_and_added d_rooted d_divided d_multiplied d_added d_contrary d_operands_used d_is_nan c_NAN y_any
  have d_row_of : Def P w K mg base 1 "row_of" ["some"] (sp_row_of K) := ok_row_of R_row_of c_LANES y_len
  have d_is_in : Def P w K mg base 1 "is_in" ["k", "lane"] sp_is_in := ok_is_in R_is_in
  have d_is_mode : Def P w K mg base 1 "is_mode" ["mode"] sp_is_mode := ok_is_mode R_is_mode c_MODES
  exact def_at (ok_arith R_arith d_is_in d_computed d_is_mode d_row_of c_LANES c_LAST_OP y_range) hfa l32

end Hr
open PySem PySem.W PyProof.Rows
set_option maxRecDepth 100000 in
set_option maxHeartbeats 0 in
theorem PySem.Challenge.cw_halfrows_s01_arith_holds : PySem.Challenge.rw_halfrows_s01_arith.Holds := by
  w_on; k_headS; (case hw => exact ⟨[.int 0, .int 0, .int 0, .list [], .list [], .list []], by decide +kernel, by decide +kernel⟩)
  k_fillS
  refine L2.walk_specK (r := PySem.Challenge.rw_halfrows_s01_arith) (k := 8) (CX := L2.CX0) (ps := ["k", "op", "mode", "a", "b", "c"]) (sp := fun K => Hr.sp_arith K) (by decide +kernel) rfl rfl ⟨rfl, by decide, by decide⟩ (fun w h Y => PySem.W.kIn_of Y) ?F ?S (fun _ _ _ _ z => z)
  case F =>
    intro w mg fa h Y KX G hmg
    refine' Hr.all_mk KX G hmg ?a1 ?l1 ?k1 ?p1 ?a2 ?l2 ?k2 ?p2 ?a3 ?l3 ?k3 ?p3 ?a4 ?l4 ?k4 ?p4 ?a5 ?l5 ?k5 ?p5 ?a6 ?l6 ?k6 ?p6 ?a7 ?l7 ?k7 ?p7 ?a8 ?l8 ?k8 ?p8 ?a9 ?l9 ?k9 ?p9 ?a10 ?l10 ?k10 ?p10 ?a11 ?l11 ?k11 ?p11 ?a12 ?l12 ?k12 ?p12 ?a13 ?l13 ?k13 ?p13 ?a14 ?l14 ?k14 ?p14 ?a15 ?l15 ?k15 ?p15 ?a16 ?l16 ?k16 ?p16 ?a17 ?l17 ?k17 ?p17 ?a18 ?l18 ?k18 ?p18 ?a19 ?l19 ?k19 ?p19 ?a20 ?l20 ?k20 ?p20 ?a21 ?l21 ?k21 ?p21 ?a22 ?l22 ?k22 ?p22 ?a23 ?l23 ?k23 ?p23 ?a24 ?l24 ?k24 ?p24 ?a25 ?l25 ?k25 ?p25 ?a26 ?l26 ?k26 ?p26 ?a27 ?l27 ?k27 ?p27 ?a28 ?l28 ?k28 ?p28 ?a29 ?l29 ?k29 ?p29 ?a30 ?l30 ?k30 ?p30 ?a31 ?l31 ?k31 ?p31 ?a32 ?l32 ?k32 ?p32 ?g_SIGN ?g_INFINITY ?g_NAN ?g_LARGEST ?g_FRACTION ?g_UNIT_BITS ?g_PRECISION ?g_MOST_UNITS ?g_NEAREST ?g_DOWN ?g_UP ?g_MODES ?g_ROOT_BITS ?g_TOP ?g_LANES ?g_LAST_OP ?z_abs ?z_any ?z_int ?z_len ?z_max ?z_range
    (case a1 => k_is); (case l1 => k_is); (case k1 => k_is); (case p1 => k_is); (case a2 => k_is); (case l2 => k_is); (case k2 => k_is); (case p2 => k_is); (case a3 => k_is); (case l3 => k_is); (case k3 => k_is); (case p3 => k_is); (case a4 => k_is); (case l4 => k_is); (case k4 => k_is); (case p4 => k_is); (case a5 => k_is); (case l5 => k_is); (case k5 => k_is); (case p5 => k_is); (case a6 => k_is); (case l6 => k_is); (case k6 => k_is); (case p6 => k_is); (case a7 => k_is); (case l7 => k_is); (case k7 => k_is); (case p7 => k_is); (case a8 => k_is); (case l8 => k_is); (case k8 => k_is); (case p8 => k_is); (case a9 => k_is); (case l9 => k_is); (case k9 => k_is); (case p9 => k_is); (case a10 => k_is); (case l10 => k_is); (case k10 => k_is); (case p10 => k_is); (case a11 => k_is); (case l11 => k_is); (case k11 => k_is); (case p11 => k_is); (case a12 => k_is); (case l12 => k_is); (case k12 => k_is); (case p12 => k_is); (case a13 => k_is); (case l13 => k_is); (case k13 => k_is); (case p13 => k_is); (case a14 => k_is); (case l14 => k_is); (case k14 => k_is); (case p14 => k_is); (case a15 => k_is); (case l15 => k_is); (case k15 => k_is); (case p15 => k_is); (case a16 => k_is); (case l16 => k_is); (case k16 => k_is); (case p16 => k_is); (case a17 => k_is); (case l17 => k_is); (case k17 => k_is); (case p17 => k_is); (case a18 => k_is); (case l18 => k_is); (case k18 => k_is); (case p18 => k_is); (case a19 => k_is); (case l19 => k_is); (case k19 => k_is); (case p19 => k_is); (case a20 => k_is); (case l20 => k_is); (case k20 => k_is); (case p20 => k_is); (case a21 => k_is); (case l21 => k_is); (case k21 => k_is); (case p21 => k_is); (case a22 => k_is); (case l22 => k_is); (case k22 => k_is); (case p22 => k_is); (case a23 => k_is); (case l23 => k_is); (case k23 => k_is); (case p23 => k_is); (case a24 => k_is); (case l24 => k_is); (case k24 => k_is); (case p24 => k_is); (case a25 => k_is); (case l25 => k_is); (case k25 => k_is); (case p25 => k_is); (case a26 => k_is); (case l26 => k_is); (case k26 => k_is); (case p26 => k_is); (case a27 => k_is); (case l27 => k_is); (case k27 => k_is); (case p27 => k_is); (case a28 => k_is); (case l28 => k_is); (case k28 => k_is); (case p28 => k_is); (case a29 => k_is); (case l29 => k_is); (case k29 => k_is); (case p29 => k_is); (case a30 => k_is); (case l30 => k_is); (case k30 => k_is); (case p30 => k_is); (case a31 => k_is); (case l31 => k_is); (case k31 => k_is); (case p31 => k_is); (case a32 => k_is); (case l32 => k_is); (case k32 => k_is); (case p32 => k_is); (case g_SIGN => k_is); (case g_INFINITY => k_is); (case g_NAN => k_is); (case g_LARGEST => k_is); (case g_FRACTION => k_is); (case g_UNIT_BITS => k_is); (case g_PRECISION => k_is); (case g_MOST_UNITS => k_is); (case g_NEAREST => k_is); (case g_DOWN => k_is); (case g_UP => k_is); (case g_MODES => k_is); (case g_ROOT_BITS => k_is); (case g_TOP => k_is); (case g_LANES => k_is); (case g_LAST_OP => k_is); (case z_abs => k_is); (case z_any => k_is); (case z_int => k_is); (case z_len => k_is); (case z_max => k_is); (case z_range => k_is)
  case S =>
    intro K H xs a hO hwi hask hx
    obtain ⟨a1, a2, a3, a4, a5, a6, u⟩ := a
    cases hx with
    | cons h1 hx => cases hx with
    | cons h2 hx => cases hx with
    | cons h3 hx => cases hx with
    | cons h4 hx => cases hx with
    | cons h5 hx => cases hx with
    | cons h6 hx =>
      cases hx
      obtain rfl := Hr.dw_int1 h1
      obtain rfl := Hr.dw_int1 h2
      obtain rfl := Hr.dw_int1 h3
      obtain ⟨p4, rfl, s4⟩ := Hr.dw_list1 (ns := a4) h4
      obtain ⟨p5, rfl, s5⟩ := Hr.dw_list1 (ns := a5) h5
      obtain ⟨p6, rfl, s6⟩ := Hr.dw_list1 (ns := a6) h6
      have w0 : (Codec.inInt 0 4294967295 a1 && (Codec.inInt (-2147483648) 2147483647 a2 && (Codec.inInt (-2147483648) 2147483647 a3 && ((Codec.inLen 0 32 a4 && a4.all (Codec.inInt 0 65535)) && ((Codec.inLen 0 32 a5 && a5.all (Codec.inInt 0 65535)) && ((Codec.inLen 0 32 a6 && a6.all (Codec.inInt 0 65535)) && true)))))) = true := hwi
      rw [Bool.and_true, Bool.and_eq_true, Bool.and_eq_true, Bool.and_eq_true] at w0
      obtain ⟨b1, b2, b3, w1⟩ := w0
      obtain ⟨b4, w2⟩ := Bool.and_eq_true_iff.mp w1
      obtain ⟨b5, b6⟩ := Bool.and_eq_true_iff.mp w2
      have b1 := Hr.in_int b1
      have b4 := Hr.in_list b4
      have b5 := Hr.in_list b5
      have b6 := Hr.in_list b6
      obtain ⟨n1, rfl⟩ := Int.eq_ofNat_of_zero_le b1.1
      obtain ⟨l4, rfl, c4⟩ := Hr.nats_of b4.2
      obtain ⟨l5, rfl, c5⟩ := Hr.nats_of b5.2
      obtain ⟨l6, rfl, c6⟩ := Hr.nats_of b6.2
      have d4 := b4.1
      have d5 := b5.1
      have d6 := b6.1
      rw [List.length_map] at d4 d5 d6
      have s4' : L2.SqL K H p4 (l4.map Hr.vN) := by
        rw [← Hr.cast_map]
        exact s4
      have s5' : L2.SqL K H p5 (l5.map Hr.vN) := by
        rw [← Hr.cast_map]
        exact s5
      have s6' : L2.SqL K H p6 (l6.map Hr.vN) := by
        rw [← Hr.cast_map]
        exact s6
      exact ⟨n1, a2, a3, p4, p5, p6, l4, l5, l6, rfl, s4', d4, (fun n hn => by have := c4 n hn; omega), s5', d5, (fun n hn => by have := c5 n hn; omega), s6', d6, (fun n hn => by have := c6 n hn; omega), fun H' p hp => .lst (L2.SqL.of hp) (L2.dw_ints _)⟩
#print axioms PySem.Challenge.cw_halfrows_s01_arith_holds
