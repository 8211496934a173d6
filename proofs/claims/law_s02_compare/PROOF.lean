import PyProof.Rows.All
import Wide.All
import OpenK.AllK
import Wide.FinOn
import Open.SpecLaws
import KE.OsGo
import HandS.ForSpec
import HandS.Comp
import HandS.Iter
import HandS.Walk
import HandS.Wide
import HandS.WideBits
import HandS.TupLe
import HandS.Text
import PySem.Challenge.RW_halfrows_s02_compare
set_option Elab.async false
set_option linter.all false
set_option maxRecDepth 100000
set_option maxHeartbeats 4000000
namespace Hr
/-! ### bit lengths -/
def len (n : Nat) : Nat := if n = 0 then 0 else n.log2 + 1
theorem len_zero : len 0 = 0 := rfl
theorem lt_len (n : Nat) : n < 2 ^ len n := by
  unfold len
  split
  · subst n; decide
  · exact Nat.lt_log2_self
theorem len_le {n : Nat} (h : 0 < n) : 2 ^ (len n - 1) ≤ n := by
  unfold len
  rw [if_neg (by omega)]
  exact Nat.log2_self_le (by omega)
theorem pow_lt_pow {a b : Nat} (h : 2 ^ a < 2 ^ b) : a < b := (Nat.pow_lt_pow_iff_right (by decide)).mp h
theorem pow_le_pow {a b : Nat} (h : a ≤ b) : 2 ^ a ≤ 2 ^ b := Nat.pow_le_pow_right (by decide) h
theorem pow_pos (a : Nat) : 0 < 2 ^ a := Nat.pow_pos (by decide)
theorem len_unique {n k : Nat} (h0 : 2 ^ k ≤ n) (h1 : n < 2 ^ (k + 1)) : len n = k + 1 := by
  have hp := pow_pos k
  have a := lt_len n
  have b := len_le (n := n) (by omega)
  have c := pow_lt_pow (Nat.lt_of_le_of_lt h0 a)
  have d := pow_lt_pow (Nat.lt_of_le_of_lt b h1)
  omega
theorem len_pos {n : Nat} (h : 0 < n) : 0 < len n := by
  unfold len
  rw [if_neg (by omega)]
  omega
theorem len_le_of_lt {n k : Nat} (h : n < 2 ^ k) : len n ≤ k := by
  rcases Nat.eq_zero_or_pos n with z | z
  · subst z; exact Nat.zero_le _
  · have b := len_le z
    have := pow_lt_pow (Nat.lt_of_le_of_lt b h)
    have := len_pos z
    omega
/-- the loop's test of length_of -/
theorem shift_pos (n k : Nat) : 0 < n / 2 ^ k ↔ k < len n := by
  constructor
  · intro h
    have : 2 ^ k ≤ n := by
      rcases Nat.lt_or_ge n (2 ^ k) with z | z
      · rw [Nat.div_eq_of_lt z] at h; omega
      · exact z
    exact pow_lt_pow (Nat.lt_of_le_of_lt this (lt_len n))
  · intro h
    have z : 0 < n := by
      rcases Nat.eq_zero_or_pos n with z | z
      · subst z; rw [len_zero] at h; omega
      · exact z
    exact Nat.div_pos (Nat.le_trans (pow_le_pow (by omega)) (len_le z)) (pow_pos k)
/-! ### the program's rounding -/
def goesUp (whole rest part : Nat) (neg : Bool) (mode : Nat) : Bool :=
  if mode = 0 then decide (part < 2 * rest) || (decide (2 * rest = part) && decide (whole % 2 = 1))
  else if mode = 1 then decide (0 < rest) && neg
  else decide (mode = 2) && (decide (0 < rest) && !neg)
def sizeOf (many : Nat) : Nat := if many < 1024 then many else (len many - 10) * 1024 + many / 2 ^ (len many - 11) - 1024
def pastIt (neg : Bool) (mode : Nat) : Bool := decide (mode = 0) || ((decide (mode = 1) && neg) || (decide (mode = 2) && !neg))
def beyond (neg : Bool) (mode : Nat) : Nat := Sv03.signed neg (if pastIt neg mode = true then 31744 else 31743)
def finish (neg : Bool) (mode many : Nat) : Nat := if 2047 * 2 ^ 29 < many then beyond neg mode else Sv03.signed neg (sizeOf many)
def up (whole rest part : Nat) (neg : Bool) (mode : Nat) : Nat := if goesUp whole rest part neg mode = true then 1 else 0
def rw (top bottom : Nat) (neg : Bool) (mode : Nat) : Nat := top / bottom + up (top / bottom) (top - top / bottom * bottom) bottom neg mode
def roundedP (top bottom : Nat) (neg : Bool) (mode : Nat) : Nat :=
  finish neg mode (rw top (bottom * 2 ^ (len (top / bottom) - 11)) neg mode * 2 ^ (len (top / bottom) - 11))
theorem up_true {w r p : Nat} {neg : Bool} {mode : Nat} (h : goesUp w r p neg mode = true) : up w r p neg mode = 1 := if_pos h
theorem up_false {w r p : Nat} {neg : Bool} {mode : Nat} (h : goesUp w r p neg mode = false) : up w r p neg mode = 0 := by
  unfold up
  rw [h]
  rfl
/-! ### units -/
/-- a magnitude by its exponent and its significand -/
def Form (E w : Nat) : Prop := w ≤ 2048 ∧ (E = 0 ∨ 1024 ≤ w)
theorem units_form {E w : Nat} (h : Form E w) : Sv03.units (E * 1024 + w) = w * 2 ^ E := by
  obtain ⟨h1, h2⟩ := h
  unfold Sv03.units
  rcases Nat.lt_or_ge w 1024 with c | c
  · have hE : E = 0 := by omega
    subst hE
    rw [if_pos (by omega)]
    simp
  · rw [if_neg (by omega)]
    rcases Nat.lt_or_ge w 2048 with d | d
    · have e1 : (E * 1024 + w) % 1024 = w - 1024 := by omega
      have e2 : (E * 1024 + w) / 1024 - 1 = E := by omega
      rw [e1, e2, show 1024 + (w - 1024) = w by omega]
    · have hw : w = 2048 := by omega
      subst hw
      have e1 : (E * 1024 + 2048) % 1024 = 0 := by omega
      have e2 : (E * 1024 + 2048) / 1024 - 1 = E + 1 := by omega
      rw [e1, e2, Nat.pow_succ]
      omega
theorem form_of (m : Nat) : ∃ E w, m = E * 1024 + w ∧ w < 2048 ∧ (E = 0 ∨ 1024 ≤ w) := by
  refine ⟨m / 1024 - 1, m - (m / 1024 - 1) * 1024, ?_, ?_, ?_⟩ <;> omega
theorem units_succ (m : Nat) : Sv03.units m < Sv03.units (m + 1) := by
  obtain ⟨E, w, rfl, h1, h2⟩ := form_of m
  rw [units_form ⟨by omega, h2⟩, Nat.add_assoc, units_form ⟨by omega, by omega⟩]
  exact Nat.mul_lt_mul_of_pos_right (by omega) (pow_pos E)
theorem units_mono {a b : Nat} (h : a ≤ b) : Sv03.units a ≤ Sv03.units b := by
  induction b with
  | zero => rw [show a = 0 by omega]; exact Nat.le_refl _
  | succ b ih =>
    rcases Nat.lt_or_ge a (b + 1) with c | c
    · exact Nat.le_trans (ih (by omega)) (Nat.le_of_lt (units_succ b))
    · rw [show a = b + 1 by omega]; exact Nat.le_refl _
theorem units_lt {a b : Nat} (h : a < b) : Sv03.units a < Sv03.units b := Nat.lt_of_lt_of_le (units_succ a) (units_mono h)
/-! ### the search -/
/-- the greatest magnitude not above -/
def Ok (cmp : Nat → Ordering) (m : Nat) : Prop := m ≤ 0x7C00 ∧ cmp (2 * Sv03.units m) ≠ .gt
theorem seek_finds (cmp : Nat → Ordering) : ∀ (b m : Nat), Ok cmp m → ¬ Ok cmp (m + 2 ^ b) → Ok cmp (Sv03.seek cmp b m) ∧ ¬ Ok cmp (Sv03.seek cmp b m + 1)
  | 0, m, h1, h2 => ⟨h1, h2⟩
  | b + 1, m, h1, h2 => by
    unfold Sv03.seek
    by_cases c : m + 2 ^ b ≤ 0x7C00 ∧ cmp (2 * Sv03.units (m + 2 ^ b)) ≠ .gt
    · rw [if_pos c]
      refine seek_finds cmp b _ c ?_
      rw [Nat.pow_succ] at h2
      rw [Nat.add_assoc, show 2 ^ b + 2 ^ b = 2 ^ b * 2 by omega]
      exact h2
    · rw [if_neg c]
      exact seek_finds cmp b m h1 c
def cmpOf (n d : Nat) (t : Nat) : Ordering := compare (t * d) (2 * n)
theorem cmpOf_le {n d u : Nat} : cmpOf n d (2 * u) ≠ .gt ↔ u * d ≤ n := by
  unfold cmpOf
  rw [Ne, Nat.compare_eq_gt, Nat.mul_assoc]
  omega
theorem ok_iff {n d m : Nat} : Ok (cmpOf n d) m ↔ m ≤ 0x7C00 ∧ Sv03.units m * d ≤ n := by
  unfold Ok
  rw [cmpOf_le]
theorem ok_down {n d a b : Nat} (h : a ≤ b) (o : Ok (cmpOf n d) b) : Ok (cmpOf n d) a := by
  rw [ok_iff] at o ⊢
  exact ⟨by omega, Nat.le_trans (Nat.mul_le_mul_right d (units_mono h)) o.2⟩
theorem seek_eq {n d m : Nat} (h1 : Ok (cmpOf n d) m) (h2 : ¬ Ok (cmpOf n d) (m + 1)) : Sv03.seek (cmpOf n d) 15 0 = m := by
  have z := seek_finds (cmpOf n d) 15 0 (ok_down (Nat.zero_le m) h1) (fun o => absurd (ok_iff.mp o).1 (by omega))
  generalize Sv03.seek (cmpOf n d) 15 0 = s at z
  rcases Nat.lt_trichotomy s m with c | c | c
  · exact absurd (ok_down (show s + 1 ≤ m by omega) h1) z.2
  · exact c
  · exact absurd (ok_down (show m + 1 ≤ s by omega) z.1) h2
/-! ### what the program's step and whole are -/
structure Parts (n d E w r : Nat) : Prop where
  eq : n = w * (d * 2 ^ E) + r
  lt : r < d * 2 ^ E
  w1 : w < 2048
  w2 : E = 0 ∨ 1024 ≤ w
theorem parts (n d : Nat) (hd : 0 < d) : Parts n d (len (n / d) - 11) (n / (d * 2 ^ (len (n / d) - 11))) (n - n / (d * 2 ^ (len (n / d) - 11)) * (d * 2 ^ (len (n / d) - 11))) := by
  have hp := pow_pos (len (n / d) - 11)
  have hm : 0 < d * 2 ^ (len (n / d) - 11) := Nat.mul_pos hd hp
  have e := Nat.div_add_mod n (d * 2 ^ (len (n / d) - 11))
  rw [Nat.mul_comm] at e
  have l := Nat.mod_lt n hm
  have hle : n / (d * 2 ^ (len (n / d) - 11)) * (d * 2 ^ (len (n / d) - 11)) ≤ n := Nat.div_mul_le_self _ _
  have hw : n / (d * 2 ^ (len (n / d) - 11)) = n / d / 2 ^ (len (n / d) - 11) := (Nat.div_div_eq_div_mul n d _).symm
  refine ⟨by omega, by omega, ?_, ?_⟩
  · rw [hw, Nat.div_lt_iff_lt_mul hp]
    have a := lt_len (n / d)
    refine Nat.lt_of_lt_of_le a ?_
    rw [show (2048 : Nat) = 2 ^ 11 by decide, ← Nat.pow_add]
    exact pow_le_pow (by omega)
  · rcases Nat.lt_or_ge (len (n / d)) 12 with c | c
    · left; omega
    · right
      rw [hw, Nat.le_div_iff_mul_le hp]
      have q : 0 < n / d := by
        rcases Nat.eq_zero_or_pos (n / d) with z | z
        · rw [z, len_zero] at c; omega
        · exact z
      refine Nat.le_trans ?_ (len_le q)
      rw [show (1024 : Nat) = 2 ^ 10 by decide, ← Nat.pow_add]
      exact pow_le_pow (by omega)
theorem sizeOf_form {E w : Nat} (h : Form E w) : sizeOf (w * 2 ^ E) = E * 1024 + w := by
  obtain ⟨h1, h2⟩ := h
  unfold sizeOf
  have hp := pow_pos E
  rcases Nat.lt_or_ge w 1024 with c | c
  · have hE : E = 0 := by omega
    subst hE
    rw [if_pos (by omega)]
    simp
  · have : 1024 ≤ w * 2 ^ E := Nat.le_trans c (Nat.le_mul_of_pos_right w hp)
    rw [if_neg (by omega)]
    rcases Nat.lt_or_ge w 2048 with d | d
    · have l : len (w * 2 ^ E) = E + 10 + 1 := len_unique (by
        rw [Nat.pow_add, Nat.mul_comm]
        exact Nat.mul_le_mul_right _ c) (by
        rw [show E + 10 + 1 = 11 + E by omega, Nat.pow_add]
        exact Nat.mul_lt_mul_of_pos_right d hp)
      rw [l, show E + 10 + 1 - 11 = E by omega, Nat.mul_div_cancel _ hp]
      omega
    · have hw : w = 2048 := by omega
      subst hw
      have e : 2048 * 2 ^ E = 1024 * 2 ^ (E + 1) := by rw [Nat.pow_succ]; omega
      have l : len (2048 * 2 ^ E) = E + 11 + 1 := len_unique (by
        rw [Nat.pow_add, Nat.mul_comm]
        exact Nat.mul_le_mul_right _ (by decide)) (by
        rw [show E + 11 + 1 = 12 + E by omega, Nat.pow_add]
        exact Nat.mul_lt_mul_of_pos_right (by decide) hp)
      rw [l, show E + 11 + 1 - 11 = E + 1 by omega, e, Nat.mul_div_cancel _ (pow_pos _)]
      omega
theorem over_form {E w : Nat} (h : Form E w) : 2047 * 2 ^ 29 < w * 2 ^ E ↔ 0x7C00 ≤ E * 1024 + w := by
  have e1 : 2047 * 2 ^ 29 = Sv03.units 0x7BFF := by decide
  rw [e1, ← units_form h]
  constructor
  · intro c
    rcases Nat.lt_or_ge (E * 1024 + w) 0x7C00 with z | z
    · exact absurd (units_mono (show E * 1024 + w ≤ 0x7BFF by omega)) (by omega)
    · exact z
  · intro c
    exact units_lt (by omega)
/-! ### the rounding is the specification's -/
theorem rounded_eq {n d : Nat} (hd : 0 < d) (neg : Bool) {mode : Nat} (hm : mode ≤ 3) : roundedP n d neg mode = Sv03.ofFraction mode neg n d := by
  have p := parts n d hd
  unfold roundedP rw
  generalize len (n / d) - 11 = E at p ⊢
  generalize n / (d * 2 ^ E) = w at p ⊢
  generalize n - w * (d * 2 ^ E) = r at p ⊢
  obtain ⟨eq, lt, w1, w2⟩ := p
  have hp := pow_pos E
  have hS : 0 < d * 2 ^ E := Nat.mul_pos hd hp
  have fw : Form E w := ⟨by omega, w2⟩
  have fw1 : Form E (w + 1) := ⟨by omega, by omega⟩
  have uw : Sv03.units (E * 1024 + w) = w * 2 ^ E := units_form fw
  have uw1 : Sv03.units (E * 1024 + w + 1) = (w + 1) * 2 ^ E := by
    rw [Nat.add_assoc]; exact units_form fw1
  have lo : Sv03.units (E * 1024 + w) * d ≤ n := by
    rw [uw, Nat.mul_assoc, Nat.mul_comm (2 ^ E) d]; omega
  have hi : n < Sv03.units (E * 1024 + w + 1) * d := by
    rw [uw1, Nat.mul_assoc, Nat.mul_comm (2 ^ E) d, Nat.succ_mul]; omega
  show _ = Sv03.rounded mode neg (cmpOf n d)
  unfold Sv03.rounded
  rcases Nat.lt_or_ge (E * 1024 + w) 0x7C00 with c | c
  · -- below infinity
    have sk : Sv03.seek (cmpOf n d) 15 0 = E * 1024 + w := seek_eq (ok_iff.mpr ⟨by omega, lo⟩) (fun o => absurd (ok_iff.mp o).2 (by omega))
    rw [sk]
    dsimp only
    have nov : ¬ 2047 * 2 ^ 29 < w * 2 ^ E := fun z => absurd ((over_form fw).mp z) (by omega)
    have up_over : 2047 * 2 ^ 29 < (w + 1) * 2 ^ E ↔ E * 1024 + w = 0x7BFF := by
      rw [over_form fw1]; omega
    have s0 : sizeOf (w * 2 ^ E) = E * 1024 + w := sizeOf_form fw
    have s1 : sizeOf ((w + 1) * 2 ^ E) = E * 1024 + w + 1 := by
      rw [Nat.add_assoc]; exact sizeOf_form fw1
    -- what a turn up gives
    have UP : pastIt neg mode = true → finish neg mode ((w + 1) * 2 ^ E) = Sv03.signed neg (E * 1024 + w + 1) := by
      intro hb
      unfold finish
      by_cases z : E * 1024 + w = 0x7BFF
      · rw [if_pos (up_over.mpr z), z]
        unfold beyond
        rw [if_pos hb]
      · rw [if_neg (fun y => z (up_over.mp y)), s1]
    have DN : finish neg mode (w * 2 ^ E) = Sv03.signed neg (E * 1024 + w) := by
      unfold finish
      rw [if_neg nov, s0]
    have ex : cmpOf n d (2 * Sv03.units (E * 1024 + w)) = .eq ↔ r = 0 := by
      unfold cmpOf
      rw [Nat.compare_eq_eq, uw, Nat.mul_assoc, Nat.mul_assoc, Nat.mul_comm (2 ^ E) d]; omega
    by_cases hr : r = 0
    · rw [if_pos ⟨ex.mpr hr, c⟩]
      have g : goesUp w r (d * 2 ^ E) neg mode = false := by
        unfold goesUp
        subst hr
        have a1 : ¬ d * 2 ^ E < 2 * 0 := by omega
        have a2 : ¬ 2 * 0 = d * 2 ^ E := by omega
        simp [a1, a2]
      rw [up_false g, Nat.add_zero]
      exact DN
    · rw [if_neg (fun z => hr (ex.mp z.1)), if_neg (by omega)]
      have rp : 0 < r := by omega
      have cm : cmpOf n d (Sv03.units (E * 1024 + w) + Sv03.units (E * 1024 + w + 1)) = compare (d * 2 ^ E) (2 * r) := by
        have a : (w * 2 ^ E + (w + 1) * 2 ^ E) * d = 2 * (w * (d * 2 ^ E)) + d * 2 ^ E := by
          rw [← Nat.add_mul, Nat.mul_assoc, Nat.mul_comm (2 ^ E) d, show w + (w + 1) = 2 * w + 1 by omega, Nat.add_mul, Nat.mul_assoc, Nat.one_mul]
        unfold cmpOf
        rw [uw, uw1, a, eq]
        generalize w * (d * 2 ^ E) = x
        generalize d * 2 ^ E = y
        rcases Nat.lt_trichotomy y (2 * r) with z | z | z
        · rw [Nat.compare_eq_lt.mpr z, Nat.compare_eq_lt.mpr (by omega)]
        · rw [Nat.compare_eq_eq.mpr z, Nat.compare_eq_eq.mpr (by omega)]
        · rw [Nat.compare_eq_gt.mpr z, Nat.compare_eq_gt.mpr (by omega)]
      rw [cm]
      match mode, hm with
      | 0, _ =>
        rw [if_pos rfl]
        have hb : pastIt neg 0 = true := rfl
        rcases Nat.lt_trichotomy (d * 2 ^ E) (2 * r) with z | z | z
        · rw [Nat.compare_eq_lt.mpr z]
          have g : goesUp w r (d * 2 ^ E) neg 0 = true := by unfold goesUp; simp [z]
          rw [up_true g]
          exact UP hb
        · rw [Nat.compare_eq_eq.mpr z]
          by_cases o : w % 2 = 1
          · have g : goesUp w r (d * 2 ^ E) neg 0 = true := by unfold goesUp; simp [z, o]
            rw [up_true g]
            dsimp only
            rw [if_neg (by omega)]
            exact UP hb
          · have g : goesUp w r (d * 2 ^ E) neg 0 = false := by unfold goesUp; simp [z, o]
            rw [up_false g, Nat.add_zero]
            dsimp only
            rw [if_pos (by omega)]
            exact DN
        · rw [Nat.compare_eq_gt.mpr z]
          have g : goesUp w r (d * 2 ^ E) neg 0 = false := by
            unfold goesUp
            have a1 : ¬ d * 2 ^ E < 2 * r := by omega
            have a2 : ¬ 2 * r = d * 2 ^ E := by omega
            simp [a1, a2]
          rw [up_false g, Nat.add_zero]
          exact DN
      | 1, _ =>
        rw [if_neg (by decide)]
        have g : goesUp w r (d * 2 ^ E) neg 1 = neg := by unfold goesUp; simp [rp]
        cases neg with
        | true => rw [up_true g]; exact UP rfl
        | false => rw [up_false g]; exact DN
      | 2, _ =>
        rw [if_neg (by decide)]
        have g : goesUp w r (d * 2 ^ E) neg 2 = !neg := by unfold goesUp; simp [rp]
        cases neg with
        | true => rw [up_false g]; exact DN
        | false => rw [up_true g]; exact UP rfl
      | 3, _ =>
        rw [if_neg (by decide)]
        have g : goesUp w r (d * 2 ^ E) neg 3 = false := by unfold goesUp; simp
        rw [up_false g]
        cases neg <;> exact DN
  · -- at infinity or past it
    have sk : Sv03.seek (cmpOf n d) 15 0 = 0x7C00 := seek_eq (ok_iff.mpr ⟨Nat.le_refl _, Nat.le_trans (Nat.mul_le_mul_right d (units_mono c)) lo⟩) (fun o => absurd (ok_iff.mp o).1 (by omega))
    rw [sk]
    dsimp only
    rw [if_neg (fun z => absurd z.2 (by omega)), if_pos rfl]
    have ov : ∀ k : Nat, 2047 * 2 ^ 29 < (w + k) * 2 ^ E := fun k => Nat.lt_of_lt_of_le ((over_form fw).mpr c) (Nat.mul_le_mul_right _ (by omega))
    unfold finish
    rw [if_pos (ov _)]
    unfold beyond pastIt
    match mode, hm with
    | 0, _ => cases neg <;> rfl
    | 1, _ => cases neg <;> rfl
    | 2, _ => cases neg <;> rfl
    | 3, _ => cases neg <;> rfl
end Hr

namespace Hr
/-! ### rows -/
theorem each_len (f : Nat → Nat) : (Sv03.each f).length = 32 := by simp [Sv03.each]
theorem each_get {f : Nat → Nat} {i : Nat} (h : i < 32) : (Sv03.each f)[i]? = some (f i) := by
  simp [Sv03.each, h]
theorem each_congr {f g : Nat → Nat} (h : ∀ i, i < 32 → f i = g i) : Sv03.each f = Sv03.each g := by
  unfold Sv03.each
  exact List.map_congr_left fun i hi => h i (List.mem_range.mp hi)
/-- the row behind i lanes -/
def part (k : Nat) (l : List Nat) (g : Nat → Nat) (i : Nat) : List Nat := Sv03.each fun j => if j < i ∧ k.testBit j = true then g j else Sv03.at_ l j
theorem part_zero (k : Nat) (l : List Nat) (g : Nat → Nat) : part k l g 0 = Sv03.each (Sv03.at_ l) := each_congr fun i _ => by rw [if_neg (by omega)]
theorem part_full (k : Nat) (l : List Nat) (g : Nat → Nat) : part k l g 32 = Sv03.merged k l g := by
  unfold part Sv03.merged
  refine each_congr fun i hi => ?_
  by_cases c : k.testBit i = true
  · rw [if_pos ⟨hi, c⟩, if_pos c]
  · rw [if_neg (fun z => c z.2), if_neg c]
theorem part_get {k : Nat} {l : List Nat} {g : Nat → Nat} {i : Nat} (h : i < 32) : (part k l g i)[i]? = some (Sv03.at_ l i) := by
  unfold part
  rw [each_get h, if_neg (by omega)]
theorem part_out {k : Nat} {l : List Nat} {g : Nat → Nat} {i : Nat} (h : ¬ k.testBit i = true) : part k l g (i + 1) = part k l g i := by
  unfold part
  refine each_congr fun j hj => ?_
  by_cases e : j = i
  · subst e
    rw [if_neg (fun z => h z.2), if_neg (fun z => h z.2)]
  · by_cases c : j < i ∧ k.testBit j = true
    · rw [if_pos c, if_pos ⟨by omega, c.2⟩]
    · rw [if_neg c, if_neg (fun z => c ⟨by omega, z.2⟩)]
theorem part_in {k : Nat} {l : List Nat} {g : Nat → Nat} {i : Nat} (hi : i < 32) (h : k.testBit i = true) : part k l g (i + 1) = (part k l g i).set i (g i) := by
  apply List.ext_getElem?
  intro j
  rw [List.getElem?_set]
  unfold part
  rw [each_len]
  rcases Nat.lt_or_ge j 32 with c | c
  · rw [each_get c, each_get c]
    by_cases e : i = j
    · subst e
      rw [if_pos rfl, if_pos c, if_pos ⟨by omega, h⟩]
    · rw [if_neg e]
      congr 1
      by_cases d : j < i ∧ k.testBit j = true
      · rw [if_pos d, if_pos ⟨by omega, d.2⟩]
      · rw [if_neg d, if_neg (fun z => d ⟨by omega, z.2⟩)]
  · rw [List.getElem?_eq_none (by rw [each_len]; exact c), List.getElem?_eq_none (by rw [each_len]; exact c), if_neg (by omega)]
/-- a row, padded -/
theorem padded {l : List Nat} (h : l.length ≤ 32) : l ++ List.replicate (32 - l.length) 0 = Sv03.each (Sv03.at_ l) := by
  apply List.ext_getElem?
  intro j
  rcases Nat.lt_or_ge j 32 with c | c
  · rw [each_get c]
    unfold Sv03.at_
    rcases Nat.lt_or_ge j l.length with d | d
    · rw [List.getElem?_append_left d, List.getD_eq_getElem?_getD, List.getElem?_eq_getElem d]
      rfl
    · rw [List.getElem?_append_right d, List.getD_eq_getElem?_getD, List.getElem?_eq_none d, List.getElem?_replicate, if_pos (by omega)]
      rfl
  · rw [List.getElem?_eq_none (by simp; omega), List.getElem?_eq_none (by rw [each_len]; exact c)]
theorem at_lt {l : List Nat} {b : Nat} (hb : 0 < b) (h : ∀ n ∈ l, n < b) (i : Nat) : Sv03.at_ l i < b := by
  unfold Sv03.at_
  rw [List.getD_eq_getElem?_getD]
  cases e : l[i]? with
  | none => exact hb
  | some x => exact h x (List.mem_of_getElem? e)
theorem cast_nat (l : List Nat) : (l.map (fun n : Nat => (n : Int))).map Int.toNat = l := by
  rw [List.map_map]
  exact (List.map_congr_left fun n _ => Int.toNat_natCast n).trans (List.map_id l)
/-! ### small facts -/
theorem up_toNat (w r p : Nat) (neg : Bool) (mode : Nat) : up w r p neg mode = (goesUp w r p neg mode).toNat := by
  unfold up
  cases goesUp w r p neg mode <;> rfl
theorem signed_is (s : Nat) (b : Bool) : s + 32768 * b.toNat = Sv03.signed b s := by
  cases b <;> simp [Sv03.signed] <;> omega
theorem sizeOf_is {m : Nat} (h : ¬ m < 1024) : (len m - 11 + 1) * 1024 + m / 2 ^ (len m - 11 + 1 - 1) - 1024 = sizeOf m := by
  have hl : 11 ≤ len m := by
    have a := lt_len m
    rcases Nat.lt_or_ge (len m) 11 with c | c
    · have : 2 ^ len m ≤ 2 ^ 10 := pow_le_pow (by omega)
      omega
    · exact c
  unfold sizeOf
  rw [if_neg h, show len m - 11 + 1 = len m - 10 by omega, show len m - 10 - 1 = len m - 11 by omega]
theorem len_eleven {m : Nat} (h : ¬ m < 1024) : 11 ≤ len m := by
  have a := lt_len m
  rcases Nat.lt_or_ge (len m) 11 with c | c
  · have : 2 ^ len m ≤ 2 ^ 10 := pow_le_pow (by omega)
    omega
  · exact c
theorem minus_is {x : Nat} (h : x < 65536) : Sv03.minus x = decide (32768 ≤ x) := by
  unfold Sv03.minus
  rw [Nat.mod_eq_of_lt h]
theorem isInf_is (x : Nat) : Sv03.isInf x = decide (Sv03.mag x = 31744) := by
  unfold Sv03.isInf
  rw [Bool.eq_iff_iff]
  simp
theorem isZero_is (x : Nat) : Sv03.isZero x = decide (Sv03.mag x = 0) := by
  unfold Sv03.isZero
  rw [Bool.eq_iff_iff]
  simp
theorem units_is {m : Nat} (h : ¬ m < 1024) : (1024 + m % 1024) * 2 ^ (m / 1024 - 1) = Sv03.units m := by
  unfold Sv03.units
  rw [if_neg (by omega)]
theorem units_small {m : Nat} (h : m < 1024) : Sv03.units m = m := by
  unfold Sv03.units
  rw [if_pos (by omega)]
theorem mag_lt (x : Nat) : Sv03.mag x < 32768 := Nat.mod_lt _ (by decide)
theorem units_bound {m : Nat} (h : m < 32768) : Sv03.units m < 2 ^ 42 := by
  have : Sv03.units m ≤ Sv03.units 32767 := units_mono (by omega)
  have e : Sv03.units 32767 = 2047 * 2 ^ 30 := by decide
  omega
theorem testBit_is (k i : Nat) : decide (k / 2 ^ i &&& 1 = 1) = k.testBit i := by
  rw [Nat.and_one_is_mod, Nat.testBit_eq_decide_div_mod_eq]
theorem isMode_is (m : Int) : (if 0 ≤ m then decide (m < 4) else false) = Sv03.isMode m := by
  unfold Sv03.isMode
  by_cases h : 0 ≤ m
  · rw [if_pos h, decide_eq_true h, Bool.true_and]
    exact decide_eq_decide.mpr (by omega)
  · rw [if_neg h, decide_eq_false h, Bool.false_and]
theorem isMode_nat {m : Int} (h : Sv03.isMode m = true) : ∃ n : Nat, m = (n : Int) ∧ n ≤ 3 := by
  unfold Sv03.isMode at h
  simp at h
  exact ⟨m.toNat, by omega, by omega⟩
theorem fraction_zero {d mode : Nat} (hd : 0 < d) (hm : mode ≤ 3) (s : Bool) : Sv03.ofFraction mode s 0 d = Sv03.signed s 0 := by
  rw [← rounded_eq hd s hm]
  unfold roundedP rw
  simp only [Nat.zero_div, len_zero, Nat.zero_sub, Nat.pow_zero, Nat.mul_one, Nat.zero_add, Nat.zero_mul]
  have g : goesUp 0 0 d s mode = false := by
    unfold goesUp
    have a2 : ¬ 0 = d := by omega
    simp [a2]
  rw [up_false g]
  rfl
theorem int16_is {x : Nat} (h : x < 65536) : (x : Int) - ((65536 * (decide (32768 ≤ x)).toNat : Nat) : Int) = Sv03.int16 x := by
  unfold Sv03.int16
  rw [Nat.mod_eq_of_lt h]
  by_cases c : 32768 ≤ x
  · rw [decide_eq_true c, if_neg (by omega)]
    rfl
  · rw [decide_eq_false c, if_pos (by omega)]
    simp
theorem int16_bound {x : Nat} (h : x < 65536) : (Sv03.int16 x).natAbs < 2 ^ 16 := by
  unfold Sv03.int16
  rw [Nat.mod_eq_of_lt h]
  split <;> omega
theorem fromInt_is {x mode : Nat} (hm : mode ≤ 3) : Sv03.ofFraction mode (decide (Sv03.int16 x < 0)) ((Sv03.int16 x).natAbs * 2 ^ 24) 1 = Sv03.fromInt mode x := by
  unfold Sv03.fromInt Sv03.ofInt
  generalize Sv03.int16 x = i
  by_cases c : i = 0
  · subst c
    rw [if_pos (by decide)]
    exact fraction_zero (by decide) hm _
  · rw [if_neg (by omega)]
    have e1 : decide (i * ((2 ^ 24 : Nat) : Int) < 0) = decide (i < 0) := decide_eq_decide.mpr (by omega)
    have e2 : (i * ((2 ^ 24 : Nat) : Int)).natAbs = i.natAbs * 2 ^ 24 := by
      rw [Int.natAbs_mul]; rfl
    rw [e1, e2]
end Hr

namespace Hr
/-! ### whole numbers -/
theorem whole_is (u : Nat) (neg : Bool) {mode : Nat} (hm : mode ≤ 3) : Sv03.whole mode (if neg = true then -(u : Int) else (u : Int)) (2 ^ 24) = if neg = true then -((rw u (2 ^ 24) neg mode : Nat) : Int) else ((rw u (2 ^ 24) neg mode : Nat) : Int) := by
  have e24 : (2 : Nat) ^ 24 = 16777216 := by decide
  unfold Sv03.whole rw up goesUp
  rw [e24]
  have hw : u / 16777216 * 16777216 ≤ u := Nat.div_mul_le_self _ _
  match mode, hm with
  | 0, _ =>
    cases neg
    · simp only [Bool.false_eq_true, if_false, if_true]
      by_cases h0 : u % 16777216 = 0
      · rw [if_pos (by omega)]
        rw [if_neg (by simp; omega)]
        omega
      · rw [if_neg (by omega)]
        by_cases h1 : 16777216 < 2 * (u - u / 16777216 * 16777216)
        · rw [if_neg (by omega), if_pos (by simp [h1])]
          omega
        · by_cases h2 : 2 * (u - u / 16777216 * 16777216) = 16777216 ∧ u / 16777216 % 2 = 1
          · rw [if_neg (by omega), if_pos (by simp [h2])]
            omega
          · rw [if_pos (by omega), if_neg (by simp; omega)]
            omega
    · simp only [if_true]
      by_cases h0 : u % 16777216 = 0
      · rw [if_pos (by omega)]
        rw [if_neg (by simp; omega)]
        omega
      · rw [if_neg (by omega)]
        by_cases h1 : 16777216 < 2 * (u - u / 16777216 * 16777216)
        · rw [if_pos (by omega), if_pos (by simp [h1])]
          omega
        · by_cases h2 : 2 * (u - u / 16777216 * 16777216) = 16777216 ∧ u / 16777216 % 2 = 1
          · rw [if_pos (by omega), if_pos (by simp [h2])]
            omega
          · rw [if_neg (by omega), if_neg (by simp; omega)]
            omega
  | 1, _ =>
    cases neg
    · simp only [Bool.false_eq_true, if_false]
      by_cases h0 : u % 16777216 = 0
      · rw [if_pos (by omega), if_neg (by simp)]; omega
      · rw [if_neg (by omega), if_neg (by simp)]; omega
    · simp only [if_true]
      by_cases h0 : u % 16777216 = 0
      · rw [if_pos (by omega), if_neg (by simp; omega)]
        omega
      · rw [if_neg (by omega), if_pos (by simp; omega)]
        omega
  | 2, _ =>
    cases neg
    · simp only [Bool.false_eq_true, if_false]
      by_cases h0 : u % 16777216 = 0
      · rw [if_pos (by omega), if_neg (by simp; omega)]
        omega
      · rw [if_neg (by omega), if_pos (by simp; omega)]
        omega
    · simp only [if_true]
      by_cases h0 : u % 16777216 = 0
      · rw [if_pos (by omega), if_neg (by simp)]
        omega
      · rw [if_neg (by omega), if_neg (by simp)]
        omega
  | 3, _ =>
    cases neg
    · simp only [Bool.false_eq_true, if_false]
      by_cases h0 : u % 16777216 = 0
      · rw [if_pos (by omega), if_neg (by simp)]
        omega
      · rw [if_neg (by omega), if_neg (by omega), if_neg (by simp)]
        omega
    · simp only [if_true]
      by_cases h0 : u % 16777216 = 0
      · rw [if_pos (by omega), if_neg (by simp)]
        omega
      · rw [if_neg (by omega), if_pos (by omega), if_neg (by simp)]
        omega
/-- what int_of makes of the whole -/
def intOf (r : Nat) (neg : Bool) : Nat := if 32767 + neg.toNat < r then 0x8000 else ((if neg = true then -(r : Int) else (r : Int)) % 65536).toNat
theorem toInt_is {x mode : Nat} (hm : mode ≤ 3) (h : (Sv03.isNan x || Sv03.isInf x) = false) : Sv03.toInt mode x = intOf (rw (Sv03.units (Sv03.mag x)) (2 ^ 24) (Sv03.minus x) mode) (Sv03.minus x) := by
  unfold Sv03.toInt intOf Sv03.value
  rw [h, if_neg Bool.false_ne_true, whole_is _ _ hm]
  dsimp only
  generalize rw (Sv03.units (Sv03.mag x)) (2 ^ 24) (Sv03.minus x) mode = r
  cases Sv03.minus x
  · simp only [Bool.false_eq_true, if_false, Bool.toNat_false]
    by_cases c : 32767 + 0 < r
    · rw [if_pos c, if_neg (by omega)]
    · rw [if_neg c, if_pos (by omega)]
  · simp only [if_true, Bool.toNat_true]
    by_cases c : 32767 + 1 < r
    · rw [if_pos c, if_neg (by omega)]
    · rw [if_neg c, if_pos (by omega)]
/-! ### singles -/
def singleSize (u : Nat) : Nat := if u = 0 then 0 else (u.log2 + 103) * 2 ^ 23 + (if u.log2 ≤ 23 then (u - 2 ^ u.log2) * 2 ^ (23 - u.log2) else (u - 2 ^ u.log2) / 2 ^ (u.log2 - 23))
theorem shifted {u m : Nat} (h : 2 ^ m ≤ u) : u * 2 ^ 23 / 2 ^ m = 2 ^ 23 + (if m ≤ 23 then (u - 2 ^ m) * 2 ^ (23 - m) else (u - 2 ^ m) / 2 ^ (m - 23)) := by
  have hp := pow_pos m
  obtain ⟨v, rfl⟩ := Nat.exists_eq_add_of_le h
  rw [Nat.add_sub_cancel_left]
  by_cases c : m ≤ 23
  · rw [if_pos c]
    have e : (2 : Nat) ^ 23 = 2 ^ m * 2 ^ (23 - m) := by rw [← Nat.pow_add]; congr 1; omega
    rw [e, show (2 ^ m + v) * (2 ^ m * 2 ^ (23 - m)) = 2 ^ m * (2 ^ m * 2 ^ (23 - m) + v * 2 ^ (23 - m)) by
      rw [← Nat.add_mul, ← Nat.mul_assoc, ← Nat.mul_assoc, Nat.mul_comm (2 ^ m + v)], Nat.mul_div_cancel_left _ hp]
  · rw [if_neg c]
    have e : (2 : Nat) ^ m = 2 ^ 23 * 2 ^ (m - 23) := by rw [← Nat.pow_add]; congr 1; omega
    rw [e, Nat.mul_comm _ (2 ^ 23), Nat.mul_div_mul_left _ _ (pow_pos 23), Nat.add_comm, Nat.add_mul_div_right _ _ (pow_pos _), Nat.add_comm]
theorem singleSize_is {u : Nat} (h : u ≠ 0) : ((len u - 1 : Nat) : Int) - 24 + 127 = (((u.log2 + 103 : Nat)) : Int) ∧ u * 2 ^ 23 / 2 ^ (len u - 1) = 2 ^ 23 + (singleSize u - (u.log2 + 103) * 2 ^ 23) ∧ (u.log2 + 103) * 2 ^ 23 ≤ singleSize u := by
  have el : len u - 1 = u.log2 := by
    unfold len
    rw [if_neg h]
    omega
  rw [el]
  have s : singleSize u = (u.log2 + 103) * 2 ^ 23 + (if u.log2 ≤ 23 then (u - 2 ^ u.log2) * 2 ^ (23 - u.log2) else (u - 2 ^ u.log2) / 2 ^ (u.log2 - 23)) := if_neg h
  refine ⟨by omega, ?_, by omega⟩
  rw [shifted (Nat.log2_self_le h), s, Nat.add_sub_cancel_left]
theorem singleSize_end {u : Nat} (h : u ≠ 0) : ((((len u - 1 : Nat) : Int) - 24 + 127) * 8388608 + ((u * 2 ^ 23 / 2 ^ (len u - 1) : Nat) : Int)) - 8388608 = ((singleSize u : Nat) : Int) := by
  obtain ⟨a, b, c⟩ := singleSize_is h
  rw [a, b]
  have e : (2 : Nat) ^ 23 = 8388608 := by decide
  rw [e] at c ⊢
  omega
theorem single_is {x : Nat} (h : Sv03.isNan x = false) (h2 : Sv03.isInf x = false) : 2147483648 * (Sv03.minus x).toNat + singleSize (Sv03.units (Sv03.mag x)) = Sv03.single x := by
  have e31 : (2 : Nat) ^ 31 = 2147483648 := by decide
  unfold Sv03.single singleSize
  simp only [h, h2, Bool.false_eq_true, if_false]
  rw [e31]
  generalize Sv03.units (Sv03.mag x) = u
  by_cases c : u = 0
  · rw [if_pos c, if_pos c]
    cases Sv03.minus x <;> simp
  · rw [if_neg c, if_neg c]
    cases Sv03.minus x <;> simp <;> omega
theorem single_inf {x : Nat} (h : Sv03.isNan x = false) (h2 : Sv03.isInf x = true) : 2147483648 * (Sv03.minus x).toNat + 2139095040 = Sv03.single x := by
  unfold Sv03.single
  simp only [h, h2, Bool.false_eq_true, if_false, if_true]
  cases Sv03.minus x <;> rfl
theorem single_nan {x : Nat} (h : Sv03.isNan x = true) : 2143289344 = Sv03.single x := by
  unfold Sv03.single
  simp only [h, if_true]
/-! ### halves of singles -/
theorem half_nan {y mode : Nat} (h : 2139095040 < y % 2147483648) : Sv03.half mode y = 32256 := by
  unfold Sv03.half
  have e31 : (2 : Nat) ^ 31 = 2147483648 := by decide
  rw [e31]
  dsimp only
  rw [if_pos h]
  rfl
theorem neg_is {y : Nat} (hy : y < 4294967296) : decide (2 ^ 31 ≤ y % 2 ^ 32) = decide (2147483648 ≤ y) := by
  have e31 : (2 : Nat) ^ 31 = 2147483648 := by decide
  have e32 : (2 : Nat) ^ 32 = 4294967296 := by decide
  rw [e31, e32, Nat.mod_eq_of_lt hy]
theorem half_inf {y mode : Nat} (hy : y < 4294967296) (h : y % 2147483648 = 2139095040) : Sv03.half mode y = Sv03.signed (decide (2147483648 ≤ y)) 31744 := by
  unfold Sv03.half
  rw [neg_is hy]
  have e31 : (2 : Nat) ^ 31 = 2147483648 := by decide
  rw [e31]
  dsimp only
  rw [if_neg (by omega), if_pos h]
theorem half_low {y mode : Nat} (hm : mode ≤ 3) (hy : y < 4294967296) (h : ¬ 2139095040 < y % 2147483648) (h2 : ¬ y % 2147483648 = 2139095040) (h3 : y % 2147483648 / 8388608 = 0) :
    Sv03.ofFraction mode (decide (2147483648 ≤ y)) (y % 2147483648 % 8388608) (2 ^ 125) = Sv03.half mode y := by
  unfold Sv03.half
  rw [neg_is hy]
  have e31 : (2 : Nat) ^ 31 = 2147483648 := by decide
  have e23 : (2 : Nat) ^ 23 = 8388608 := by decide
  rw [e31, e23]
  dsimp only
  rw [if_neg h, if_neg h2, if_pos h3]
  by_cases c : y % 2147483648 = 0
  · rw [if_pos c, c]
    exact fraction_zero (pow_pos _) hm _
  · rw [if_neg c]
    congr 1
    omega
theorem half_high {y mode : Nat} (hy : y < 4294967296) (h : ¬ 2139095040 < y % 2147483648) (h2 : ¬ y % 2147483648 = 2139095040) (h3 : ¬ y % 2147483648 / 8388608 = 0) :
    Sv03.ofFraction mode (decide (2147483648 ≤ y)) ((8388608 + y % 2147483648 % 8388608) * 2 ^ (y % 2147483648 / 8388608 - 1)) (2 ^ 125) = Sv03.half mode y := by
  unfold Sv03.half
  rw [neg_is hy]
  have e31 : (2 : Nat) ^ 31 = 2147483648 := by decide
  have e23 : (2 : Nat) ^ 23 = 8388608 := by decide
  rw [e31, e23]
  dsimp only
  rw [if_neg h, if_neg h2, if_neg (by omega), if_neg h3]
/-! ### masks of lanes -/
def maskVal (bs : List Bool) : Nat := (bs.zipIdx.map fun p => p.1.toNat * 2 ^ p.2).sum
theorem mask_fold (g : Nat → Bool) : ∀ (l : List Nat) (acc : Nat), (l.filter g).foldl (fun n i => n + 2 ^ i) acc = acc + (l.map fun i => (g i).toNat * 2 ^ i).sum
  | [], acc => rfl
  | x :: r, acc => by
    cases h : g x
    · rw [List.filter_cons_of_neg (by simp [h]), mask_fold g r acc, List.map_cons, List.sum_cons, h]
      simp
    · rw [List.filter_cons_of_pos h, List.foldl_cons, mask_fold g r, List.map_cons, List.sum_cons, h]
      simp
      omega
theorem maskOf_is (k : Nat) (f : Nat → Bool) : maskVal ((List.range 32).map fun i => k.testBit i && f i) = Sv03.maskOf k f := by
  unfold Sv03.maskOf
  rw [mask_fold, Nat.zero_add]
  unfold maskVal
  congr 1
theorem maskVal_len (bs : List Bool) : (bs.zipIdx.map fun p => p.1.toNat * 2 ^ p.2).length = bs.length := by simp
theorem maskVal_get {bs : List Bool} {i : Nat} {b : Bool} (h : bs[i]? = some b) : (bs.zipIdx.map fun p => p.1.toNat * 2 ^ p.2)[i]? = some (b.toNat * 2 ^ i) := by
  rw [List.getElem?_map, List.getElem?_zipIdx, h]
  simp
theorem toNat_dec2 (p : Prop) [Decidable p] : (decide p).toNat = if p then 1 else 0 := by
  by_cases h : p <;> simp [h]
/-! ### classes -/
theorem class_nan {x : Nat} (h : Sv03.isNan x = true) : (if Sv03.mag x / 512 % 2 = 0 then 128 else 1) = Sv03.classOf x := by
  have hz : Sv03.isZero x = false := by
    unfold Sv03.isNan at h
    unfold Sv03.isZero
    have := of_decide_eq_true h
    simp
    omega
  have hi : Sv03.isInf x = false := by
    unfold Sv03.isNan at h
    unfold Sv03.isInf
    have := of_decide_eq_true h
    simp
    omega
  have hm : 0x7C00 < Sv03.mag x := of_decide_eq_true h
  unfold Sv03.classOf
  simp only [h, hz, hi, true_and, Bool.false_eq_true, false_and, if_false]
  rw [if_neg (show ¬ (0 < Sv03.mag x ∧ Sv03.mag x < 1024) by omega), if_neg (show ¬ (Sv03.minus x = true ∧ 0 < Sv03.mag x ∧ Sv03.mag x < 0x7C00) by omega)]
  unfold Sv03.mag
  by_cases c : x % 1024 ≥ 512
  · rw [if_neg (by omega), if_pos c, if_neg (by omega)]
  · rw [if_pos (by omega), if_neg c, if_pos (by omega)]
theorem class_is {x : Nat} (h : Sv03.isNan x = false) : 64 * (Sv03.minus x && (decide (0 < Sv03.mag x) && decide (Sv03.mag x < 31744))).toNat + 32 * (decide (0 < Sv03.mag x) && decide (Sv03.mag x < 1024)).toNat +
    (if Sv03.mag x = 0 then (if Sv03.minus x = true then 4 else 2) else 0) + (if Sv03.mag x = 31744 then (if Sv03.minus x = true then 16 else 8) else 0) = Sv03.classOf x := by
  unfold Sv03.classOf
  simp only [h, isInf_is, isZero_is, Bool.false_eq_true, false_and, if_false, decide_eq_true_eq]
  generalize Sv03.mag x = m
  cases Sv03.minus x
  · simp only [Bool.false_and, Bool.toNat_false, Bool.false_eq_true, if_false, and_true, false_and, and_false]
    rw [← Bool.decide_and, toNat_dec2]
    repeat' split
    all_goals omega
  · simp only [Bool.true_and, if_true, and_true, true_and, Bool.true_eq_false, and_false, if_false]
    rw [← Bool.decide_and, ← Bool.decide_and, toNat_dec2, toNat_dec2]
    repeat' split
    all_goals omega
/-! ### order -/
theorem same_is {x y : Nat} (hx : x < 65536) (hy : y < 65536) (h1 : Sv03.isNan x = false) (h2 : Sv03.isNan y = false) : (decide (x = y) || (Sv03.isZero x && Sv03.isZero y)) = Sv03.same x y := by
  unfold Sv03.same
  rw [h1, h2, minus_is hx, minus_is hy, isZero_is, isZero_is]
  unfold Sv03.mag
  rw [Bool.eq_iff_iff]
  simp only [Bool.not_false, Bool.true_and, Bool.or_eq_true, Bool.and_eq_true, decide_eq_true_eq, beq_iff_eq, decide_eq_decide]
  omega
end Hr

namespace Hr
/-! ### order -/
def place (x : Nat) : List Int := if Sv03.minus x = true then [-(Sv03.mag x : Int), 0] else [(Sv03.mag x : Int), 1]
theorem holds_is {p x y : Nat} (v : Bool) (hp : p ≤ 7) (hv : ([Sv03.same x y, Sv03.less x y, Sv03.less x y || Sv03.same x y, Sv03.isNan x || Sv03.isNan y] : List Bool)[p % 4]? = some v) : (v != decide (3 < p)) = Sv03.holds p x y := by
  unfold Sv03.holds
  match p, hp with
  | 0, _ => cases hv; simp
  | 1, _ => cases hv; simp
  | 2, _ => cases hv; simp [Bool.or_comm]
  | 3, _ => cases hv; simp
  | 4, _ => cases hv; simp
  | 5, _ => cases hv; simp
  | 6, _ => cases hv; simp [Bool.or_comm]
  | 7, _ => cases hv; simp
theorem less_nan {x y : Nat} (h : (Sv03.isNan x || (Sv03.isNan y || Sv03.same x y)) = true) : Sv03.less x y = false := by
  unfold Sv03.less
  cases h1 : Sv03.isNan x
  · cases h2 : Sv03.isNan y
    · rw [h1, h2] at h
      have h3 : Sv03.same x y = true := by simpa using h
      simp [h3]
    · simp
  · simp
theorem less_rank {x y : Nat} (h1 : Sv03.isNan x = false) (h2 : Sv03.isNan y = false) (h3 : Sv03.same x y = false) : Sv03.less x y = decide (Sv03.rank x < Sv03.rank y) := by
  unfold Sv03.less
  simp [h1, h2, h3]
theorem same_nan {x y : Nat} (h : (Sv03.isNan x || Sv03.isNan y) = true) : Sv03.same x y = false := by
  unfold Sv03.same
  cases h1 : Sv03.isNan x
  · cases h2 : Sv03.isNan y
    · rw [h1, h2] at h
      cases h
    · simp
  · simp
end Hr

namespace Hr
open PySem PySem.Spec PyProof.Rows L2
/-! ### own words over the hand layer -/
/-- a module's constant -/
def Cst (mg : Str → Option Value) (x : Str) (v : V) : Prop := ∃ u, mg x = some u ∧ RelV v u
/-- a def of the text as it stands -/
def Raw (K : PySem.W.Frag) (mg : Str → Option Value) (x : Str) (st : Stmt) (ps : List Str) : Prop := ∃ f fd, Fun K x x st f fd ∧ Binds K fd ps [] ∧ mg x = some (.ref f)
/-- a def that keeps a promise -/
def Def (P : Program) (w : World) (K : PySem.W.Frag) (mg : Str → Option Value) (base : Heap) (k : Nat) (x : Str) (ps : List Str) (sp : Sp) : Prop :=
  ∃ f fd, FnOk P w K mg base CX0 k f fd ps sp ∧ Binds K fd ps [] ∧ PySem.W.keepIn K (.ref f) = true ∧ mg x = some (.ref f) ∧ ∃ oc od osl, K.lookup f = some ⟨oc, od, .func fd, osl⟩
theorem look {K : PySem.W.Frag} {x q : Str} {st : Stmt} {f : Addr} {fd : FuncData} (F : Fun K x q st f fd) : ∃ oc od osl, K.lookup f = some ⟨oc, od, .func fd, osl⟩ := by
  obtain ⟨oc, od, _, _, _, _, _, _, osl, _, lk, _⟩ := F.ex
  exact ⟨oc, od, osl, lk⟩
theorem pe_cst {X : Cx} {x : Str} {v : V} {pos : Pos} (c : Cst X.mg x v) (hg : Gl X x := by rfl) (hd : (x == ("__debug__" : Str)) = false := by decide) : PE X (.Name x pos) (tC v) := by
  obtain ⟨u, h, r⟩ := c
  exact pe_glob hg h r hd
theorem pe_def {X : Cx} {k : Nat} {x : Str} {ps : List Str} {sp : Sp} {p pos : Pos} {e : Expr} {es : List Expr} {t : TA} (D : Def X.prog X.w X.K X.mg X.base k x ps sp) (hr : Room k X.A) (ha : PA X (e :: es) t) (hg : Gl X x := by rfl)
    (hdb : (x == ("__debug__" : Str)) = false := by decide) (he : starEach (e :: es) X.env = (false, eval e X.env) :: starEach es X.env := by rfl) (hpl : (backTo pos (starEach es X.env)).any (·.1) = false := by rfl) :
    PE X (.Call (.Name x p) (e :: es) [] pos) (tCall sp [] E0 t) := by
  obtain ⟨f, fd, F, b, kp, m, _⟩ := D
  exact pe_call F hr hg m kp b .nil pass0 ha hdb he hpl
theorem raw_mk {K : PySem.W.Frag} {h : Heap} {mg : Str → Option Value} {x : Str} {st : Stmt} {ps : List Str} {f : Addr} {oc : Value} {od an : Option Addr} {osl : Array (Option Value)} {kV doc pm cdv ct : Value} (X : K.In h) (G : h.Ns mainGlobals mg)
    (a : PySem.W.nsIn K mainGlobals x = some (some (.ref f))) (l : K.lookup f = some ⟨oc, od, .func (PySem.W.fnOf x x (defArgs st) (defBody st) (defScope st) .none kV doc pm an cdv ct), osl⟩)
    (c : PySem.W.codeIn K cdv x = true) (k : PySem.W.keepIn K (.ref f) = true)
    (hb : ∀ (kV doc pm : Value) (an : Option Addr) (cdv ct : Value) (us : List Value), us.length = ps.length → bindArgs (PySem.W.fnOf x x (defArgs st) (defBody st) (defScope st) .none kV doc pm an cdv ct) ⟨us, []⟩ = pure (ps.zip us)) : Raw K mg x st ps := by
  have F := fun_mk (x := x) (qual := x) (st := st) l c k
  exact ⟨f, _, F, F.binds hb, PySem.W.mg_of X G a⟩
/-- the promise at the def's own function data -/
theorem def_at {P : Program} {w : World} {K : PySem.W.Frag} {mg : Str → Option Value} {base : Heap} {k : Nat} {x : Str} {ps : List Str} {sp : Sp} {f : Addr} {fd : FuncData} (D : Def P w K mg base k x ps sp) (hm : mg x = some (.ref f))
    {oc : Value} {od : Option Addr} {osl : Array (Option Value)} (l : K.lookup f = some ⟨oc, od, .func fd, osl⟩) : FnOk P w K mg base CX0 k f fd ps sp := by
  obtain ⟨f', fd', G, _, _, m, oc', od', osl', lk⟩ := D
  have e := hm.symm.trans m
  cases e
  have e2 := l.symm.trans lk
  cases e2
  exact G
/-- the table of widths -/
def SqW (K : PySem.W.Frag) (a : Addr) : Prop := ∀ H : Hp, SqT K H a [.int 8, .int 16, .int 32, .int 64]
theorem sqW_of {K : PySem.W.Frag} {a : Addr} {od : Option Addr} {n : Nat} {sl : Array (Option Value)} {t1 t2 t3 t4 : Tok} (l : K.lookup a = some ⟨.type "tuple", od, .seq #[.int 8 t1, .int 16 t2, .int 32 t3, .int 64 t4] n, sl⟩) : SqW K a := fun H =>
  .inr ⟨_, _, n, l, rfl, rfl, (by show 4 ≤ sizeLine; decide), .cons ⟨_, rfl⟩ (.cons ⟨_, rfl⟩ (.cons ⟨_, rfl⟩ (.cons ⟨_, rfl⟩ .nil)))⟩
theorem op_notInW {X : Cx} {a : Addr} (hW : SqW X.K a) : OpR X (compareOp .NotIn) (fun x y H Q => ∃ w : Int, x = .int w ∧ y = .ref a ∧ Q (.bl (!decide (w ∈ Sv03.widths))) H) := by
  intro pins s σ H x y v u Q I rx ry h
  obtain ⟨w, rfl, rfl, q⟩ := h
  refine op_notIn_seq pins s σ H _ _ v u Q I rx ry ⟨a, _, rfl, .inr (hW H), rfl, rfl, ?_⟩
  have e : inV (.int w) [.int 8, .int 16, .int 32, .int 64] = decide (w ∈ Sv03.widths) := by
    show ((8 : Int) == w || ((16 : Int) == w || ((32 : Int) == w || ((64 : Int) == w || false)))) = decide (w ∈ [8, 16, 32, 64])
    rw [Bool.eq_iff_iff]
    simp only [Bool.or_eq_true, beq_iff_eq, decide_eq_true_eq, List.mem_cons, List.not_mem_nil, Bool.false_eq_true, or_false]
    omega
  rw [e]
  exact q
theorem widths_nat {w : Int} (h : w ∈ Sv03.widths) : ∃ n : Nat, w = (n : Int) ∧ (n = 8 ∨ n = 16 ∨ n = 32 ∨ n = 64) := by
  simp [Sv03.widths] at h
  rcases h with h | h | h | h
  · exact ⟨8, h, by omega⟩
  · exact ⟨16, h, by omega⟩
  · exact ⟨32, h, by omega⟩
  · exact ⟨64, h, by omega⟩
theorem same_new {H : Hp} {p : Addr} (h : H p = none) {o : HO} : Same H (upd H p o) := fun b u q => by rw [upd_ne (ne_of_none q h)]; exact q
/-! ### operators upon numbers that are not negative -/
def rLtNN : R2 := fun x y H Q => ∃ n m : Nat, x = .int (n : Int) ∧ y = .int (m : Int) ∧ Q (.bl (decide (n < m))) H
section
variable {X : Cx}
theorem op_modNN : OpR X (binaryOp .Mod) (fun x y H Q => ∃ n m : Nat, x = .int (n : Int) ∧ y = .int (m : Int) ∧ 0 < m ∧ Q (.int ((n % m : Nat) : Int)) H) := by
  intro pins s σ H x y v u Q I rx ry h
  obtain ⟨n, m, rfl, rfl, c, q⟩ := h
  rw [Int.natCast_emod] at q
  exact op_mod pins s σ H _ _ v u Q I rx ry ⟨_, _, rfl, rfl, by omega, q⟩
theorem op_fdivNW : OpR X (binaryOp .FloorDiv) (fun x y H Q => ∃ n m b : Nat, x = .int (n : Int) ∧ y = .int (m : Int) ∧ (0 < m ∧ m < 2 ^ b ∧ 0 < b ∧ b ≤ 9000) ∧ Q (.int ((n / m : Nat) : Int)) H) := by
  intro pins s σ H x y v u Q I rx ry h
  obtain ⟨n, m, b, rfl, rfl, ⟨c1, c2, c3, c4⟩, q⟩ := h
  rw [Int.natCast_ediv] at q
  exact op_fdivW pins s σ H _ _ v u Q I rx ry ⟨_, _, rfl, rfl, wide_div (by omega) (by simpa using c2) c3 c4, q⟩
theorem op_mulNW : OpR X (binaryOp .Mult) (fun x y H Q => ∃ n m a b : Nat, x = .int (n : Int) ∧ y = .int (m : Int) ∧ (n < 2 ^ a ∧ m < 2 ^ b ∧ 0 < a ∧ 0 < b ∧ a + b ≤ 1000000) ∧ Q (.int ((n * m : Nat) : Int)) H) := by
  intro pins s σ H x y v u Q I rx ry h
  obtain ⟨n, m, a, b, rfl, rfl, ⟨c1, c2, c3, c4, c5⟩, q⟩ := h
  rw [Int.natCast_mul] at q
  exact op_mulW pins s σ H _ _ v u Q I rx ry ⟨_, _, rfl, rfl, wide_mul (by simpa using c1) (by simpa using c2) c3 c4 c5, q⟩
theorem cast_two_pow (k : Nat) : (((2 ^ k : Nat) : Nat) : Int) = 2 ^ k := by
  rw [Int.natCast_pow]; rfl
theorem op_shlNN : OpR X (binaryOp .LShift) (fun x y H Q => ∃ n k b : Nat, x = .int (n : Int) ∧ y = .int (k : Int) ∧ (n < 2 ^ b ∧ b + k ≤ 100000) ∧ Q (.int ((n * 2 ^ k : Nat) : Int)) H) := by
  intro pins s σ H x y v u Q I rx ry h
  obtain ⟨n, k, b, rfl, rfl, ⟨c1, c2⟩, q⟩ := h
  rw [Int.natCast_mul, cast_two_pow] at q
  exact op_shlN pins s σ H _ _ v u Q I rx ry ⟨_, k, rfl, rfl, shl_ok (n := b) (by simpa using c1) (by omega), q⟩
theorem op_shrNN : OpR X (binaryOp .RShift) (fun x y H Q => ∃ n k : Nat, x = .int (n : Int) ∧ y = .int (k : Int) ∧ Q (.int ((n / 2 ^ k : Nat) : Int)) H) := by
  intro pins s σ H x y v u Q I rx ry h
  obtain ⟨n, k, rfl, rfl, q⟩ := h
  rw [Int.natCast_ediv, cast_two_pow] at q
  exact op_shrN pins s σ H _ _ v u Q I rx ry ⟨_, k, rfl, rfl, q⟩
theorem bitAnd_NN (n m : Nat) : Builtin.bitAnd (n : Int) (m : Int) = ((n &&& m : Nat) : Int) := by
  unfold Builtin.bitAnd
  simp
theorem op_andNN : OpR X (binaryOp .BitAnd) (fun x y H Q => ∃ n m : Nat, x = .int (n : Int) ∧ y = .int (m : Int) ∧ Q (.int ((n &&& m : Nat) : Int)) H) := by
  intro pins s σ H x y v u Q I rx ry h
  obtain ⟨n, m, rfl, rfl, q⟩ := h
  rw [← bitAnd_NN] at q
  exact op_and pins s σ H _ _ v u Q I rx ry ⟨_, _, rfl, rfl, q⟩
theorem op_orNN : OpR X (binaryOp .BitOr) (fun x y H Q => ∃ n m : Nat, x = .int (n : Int) ∧ y = .int (m : Int) ∧ Q (.int ((n ||| m : Nat) : Int)) H) := by
  intro pins s σ H x y v u Q I rx ry h
  obtain ⟨n, m, rfl, rfl, q⟩ := h
  have e := bitOr_nn (Int.natCast_nonneg n) (Int.natCast_nonneg m)
  rw [Int.toNat_natCast, Int.toNat_natCast] at e
  rw [← e] at q
  exact op_or pins s σ H _ _ v u Q I rx ry ⟨_, _, rfl, rfl, q⟩
theorem op_xorNN : OpR X (binaryOp .BitXor) (fun x y H Q => ∃ n m : Nat, x = .int (n : Int) ∧ y = .int (m : Int) ∧ Q (.int ((n ^^^ m : Nat) : Int)) H) := by
  intro pins s σ H x y v u Q I rx ry h
  obtain ⟨n, m, rfl, rfl, q⟩ := h
  have e := Bits.bitXor_pp (Int.natCast_nonneg n) (Int.natCast_nonneg m)
  rw [Int.toNat_natCast, Int.toNat_natCast] at e
  rw [← e] at q
  exact op_xor pins s σ H _ _ v u Q I rx ry ⟨_, _, rfl, rfl, q⟩
theorem op_ltNN : OpR X (compareOp .Lt) rLtNN := by
  intro pins s σ H x y v u Q I rx ry h
  obtain ⟨n, m, rfl, rfl, q⟩ := h
  exact op_lt pins s σ H _ _ v u Q I rx ry ⟨_, _, rfl, rfl, by simpa using q⟩
theorem op_leNN : OpR X (compareOp .LtE) (fun x y H Q => ∃ n m : Nat, x = .int (n : Int) ∧ y = .int (m : Int) ∧ Q (.bl (decide (n ≤ m))) H) := by
  intro pins s σ H x y v u Q I rx ry h
  obtain ⟨n, m, rfl, rfl, q⟩ := h
  exact op_le pins s σ H _ _ v u Q I rx ry ⟨_, _, rfl, rfl, by simpa using q⟩
theorem op_gtNN : OpR X (compareOp .Gt) (fun x y H Q => ∃ n m : Nat, x = .int (n : Int) ∧ y = .int (m : Int) ∧ Q (.bl (decide (m < n))) H) := by
  intro pins s σ H x y v u Q I rx ry h
  obtain ⟨n, m, rfl, rfl, q⟩ := h
  exact op_gt pins s σ H _ _ v u Q I rx ry ⟨_, _, rfl, rfl, by simpa using q⟩
theorem op_geNN : OpR X (compareOp .GtE) (fun x y H Q => ∃ n m : Nat, x = .int (n : Int) ∧ y = .int (m : Int) ∧ Q (.bl (decide (m ≤ n))) H) := by
  intro pins s σ H x y v u Q I rx ry h
  obtain ⟨n, m, rfl, rfl, q⟩ := h
  exact op_ge pins s σ H _ _ v u Q I rx ry ⟨_, _, rfl, rfl, by simpa using q⟩
theorem dec_int (n m : Int) : decide (V.int n = V.int m) = decide (n = m) := decide_eq_decide.mpr ⟨fun h => V.int.inj h, fun h => by rw [h]⟩
theorem dec_nat (n m : Nat) : decide (V.int (n : Int) = V.int (m : Int)) = decide (n = m) := by
  rw [dec_int]
  exact decide_eq_decide.mpr ⟨fun h => by omega, fun h => by omega⟩
theorem dec_bl (n m : Bool) : decide (V.bl n = V.bl m) = (n == m) := by cases n <;> cases m <;> decide
theorem op_eqNN : OpR X (compareOp .Eq) (fun x y H Q => ∃ n m : Nat, x = .int (n : Int) ∧ y = .int (m : Int) ∧ Q (.bl (decide (n = m))) H) := by
  intro pins s σ H x y v u Q I rx ry h
  obtain ⟨n, m, rfl, rfl, q⟩ := h
  exact op_eq pins s σ H _ _ v u Q I rx ry ⟨rfl, by rw [dec_nat]; exact q⟩
theorem op_neNN : OpR X (compareOp .NotEq) (fun x y H Q => ∃ n m : Nat, x = .int (n : Int) ∧ y = .int (m : Int) ∧ Q (.bl (!decide (n = m))) H) := by
  intro pins s σ H x y v u Q I rx ry h
  obtain ⟨n, m, rfl, rfl, q⟩ := h
  exact op_ne pins s σ H _ _ v u Q I rx ry ⟨rfl, by rw [dec_nat]; exact q⟩
theorem op_eqII : OpR X (compareOp .Eq) (fun x y H Q => ∃ n m : Int, x = .int n ∧ y = .int m ∧ Q (.bl (decide (n = m))) H) := by
  intro pins s σ H x y v u Q I rx ry h
  obtain ⟨n, m, rfl, rfl, q⟩ := h
  exact op_eq pins s σ H _ _ v u Q I rx ry ⟨rfl, by rw [dec_int]; exact q⟩
theorem op_eqBB : OpR X (compareOp .Eq) (fun x y H Q => ∃ n m : Bool, x = .bl n ∧ y = .bl m ∧ Q (.bl (n == m)) H) := by
  intro pins s σ H x y v u Q I rx ry h
  obtain ⟨n, m, rfl, rfl, q⟩ := h
  exact op_eq pins s σ H _ _ v u Q I rx ry ⟨rfl, by rw [dec_bl]; exact q⟩
theorem op_neBB : OpR X (compareOp .NotEq) (fun x y H Q => ∃ n m : Bool, x = .bl n ∧ y = .bl m ∧ Q (.bl (n != m)) H) := by
  intro pins s σ H x y v u Q I rx ry h
  obtain ⟨n, m, rfl, rfl, q⟩ := h
  exact op_ne pins s σ H _ _ v u Q I rx ry ⟨rfl, by rw [dec_bl]; exact q⟩
/-- int(flag) -/
theorem call_intB : CallR X (.type "int") (fun xs H Q => ∃ k : Bool, xs = [.bl k] ∧ Q (.int ((k.toNat : Nat) : Int)) H) := by
  intro pins s σ H xs us Q I r h
  obtain ⟨k, rfl, q⟩ := h
  refine call_int1 pins s σ H _ us Q I r (.inr ⟨k, rfl, ?_⟩)
  cases k <;> exact q
theorem call_absI : CallR X (.builtin "abs") (fun xs H Q => ∃ i : Int, xs = [.int i] ∧ Q (.int ((i.natAbs : Nat) : Int)) H) := by
  intro pins s σ H xs us Q I r h
  obtain ⟨i, rfl, q⟩ := h
  refine call_abs pins s σ H _ us Q I r ⟨i, rfl, ?_⟩
  have e : (if i < 0 then -i else i) = ((i.natAbs : Nat) : Int) := by split <;> omega
  rw [e]
  exact q
end
end Hr
namespace Hr
open PySem PySem.Spec PyProof.Rows L2
/-! ### the request -/
theorem dw_int1 {K : PySem.W.Frag} {H : Hp} {v : V} {i : Int} (h : Dw K H v (.int i)) : v = .int i := by
  cases h
  rfl
theorem dw_list1 {K : PySem.W.Frag} {H : Hp} {v : V} {ns : List Int} (h : Dw K H v (.list (ns.map PySem.W.WData.int))) : ∃ p, v = .ref p ∧ SqL K H p (ns.map V.int) := by
  generalize e : PySem.W.WData.list (ns.map PySem.W.WData.int) = d at h
  cases h <;> try cases e
  rename_i a xs hs ha
  exact ⟨a, rfl, by rw [← ints_dw ns xs ha]; exact hs⟩
theorem in_int {lo hi z : Int} (h : PySem.W.Codec.inInt lo hi z = true) : lo ≤ z ∧ z ≤ hi := PySem.W.Codec.inInt_iff.mp h
theorem in_list {m : Nat} {lo hi : Int} {ns : List Int} (h : (PySem.W.Codec.inLen 0 m ns && ns.all (PySem.W.Codec.inInt lo hi)) = true) : ns.length ≤ m ∧ ∀ z ∈ ns, lo ≤ z ∧ z ≤ hi := by
  rw [Bool.and_eq_true] at h
  refine ⟨(PySem.W.Codec.inNat_iff.mp h.1).2, fun z hz => in_int (List.all_eq_true.mp h.2 z hz)⟩
/-- a list of numbers that are not negative -/
theorem nats_of {ns : List Int} {hi : Int} (h : ∀ z ∈ ns, 0 ≤ z ∧ z ≤ hi) : ∃ l : List Nat, ns = l.map (fun n : Nat => (n : Int)) ∧ ∀ n ∈ l, (n : Int) ≤ hi := by
  refine ⟨ns.map Int.toNat, ?_, fun n hn => ?_⟩
  · rw [List.map_map]
    refine (List.map_id ns).symm.trans (List.map_congr_left fun z hz => ?_)
    have := h z hz
    show z = ((z.toNat : Nat) : Int)
    omega
  · obtain ⟨z, hz, rfl⟩ := List.mem_map.mp hn
    have := h z hz
    omega
end Hr
namespace Hr
open PySem PySem.SeqAt
open PySem.AutoSeq1 (wpAny_loadPart')
open PySem.MeetsSeq PySem.MeetsSeq2 PySem.MeetsSeq3
/-! ### list + list, whoever holds them -/
theorem list_addAt (l b : Addr) (items items2 : Array Value) (n n2 : Nat) (sl sl2 : Array (Option Value)) (hz : items.size + items2.size ≤ sizeLine) :
    Meets (Builtin.«list.__add__» ⟨[.ref l, .ref b], []⟩)
      (fun _ R s => s.heap.get? l = some { cls := .type "list", dict := none, data := .seq items n, slots := sl } ∧ s.heap.get? b = some { cls := .type "list", dict := none, data := .seq items2 n2, slots := sl2 } ∧
        R (.ok (.ret (Value.ref s.heap.objs.size))) { s with heap := s.heap.push { cls := Value.type "list", data := Data.seq (items ++ items2) }, toks := s.toks }) :=
  .of_wp fun prog w A R s h => by
    obtain ⟨hp, g, d, tk, os⟩ := s
    obtain ⟨hl, hb, h⟩ := h
    have f1 := AutoSeq1.idx_int
    have f2 := AutoSeq1.sub_tuple_tuple
    have f3 := AutoSeq1.sub_list_list
    have f4 := AutoSeq1.sub_tuple_list
    have f5 := AutoSeq1.sub_list_tuple
    wp_walk using wpAny_loadPart' hl, wpAny_loadPart' hb
    exact ⟨_, rfl, h⟩
end Hr
namespace Hr
open PySem PySem.Spec PyProof.Rows L2
theorem op_catL {X : Cx} : OpR X (binaryOp .Add) (fun x y H Q => ∃ (l b : Addr) (xs zs : List V), x = .ref l ∧ y = .ref b ∧ SqL X.K H l xs ∧ SqL X.K H b zs ∧ xs.length + zs.length ≤ sizeLine ∧ ∀ p, H p = none → Q (.ref p) (upd H p (.lst (xs ++ zs)))) := by
  intro pins s σ H x y v u Q I rx ry h
  obtain ⟨l, b, xs, zs, rfl, rfl, hH, hB, hz, q⟩ := h
  cases rx
  cases ry
  obtain ⟨its, r, ⟨⟨oc, od, oa, osl⟩, n, e, e1, e2, e3⟩, _⟩ := I.list hH
  obtain ⟨its2, r2, ⟨⟨oc2, od2, oa2, osl2⟩, n2, e', e1', e2', e3'⟩, _⟩ := I.list hB
  cases e1
  cases e2
  cases e3
  cases e1'
  cases e2'
  cases e3'
  have hl := r.length
  have hl2 := r2.length
  have m := list_addAt l b its.toArray its2.toArray n n2 osl osl2 (by rw [List.size_toArray, List.size_toArray]; omega)
  refine concat_meets ⟨_, e, rfl⟩ ⟨_, e', rfl⟩ noFill_list_add seq_list_add F.slot_list_add F.entry_list_add (F.args_list_add_2 _ _) m ⟨e, e', ?_⟩
  have ea : its.toArray ++ its2.toArray = (its ++ its2).toArray := by simp
  rw [ea]
  exact ⟨.ref _, _, I.lnew (t' := s.toks) (r.append r2) (by rw [List.length_append]; omega), rfl, q _ I.fresh⟩
/-- 1 << k -/
theorem op_oneNN {X : Cx} : OpR X (binaryOp .LShift) (fun x y H Q => ∃ k : Nat, x = .int 1 ∧ y = .int (k : Int) ∧ k ≤ 100000 ∧ Q (.int ((2 ^ k : Nat) : Int)) H) := by
  intro pins s σ H x y v u Q I rx ry h
  obtain ⟨k, rfl, rfl, c, q⟩ := h
  rw [cast_two_pow] at q
  exact op_oneShl pins s σ H _ _ v u Q I rx ry ⟨k, rfl, rfl, by omega, q⟩
/-- max(0, n - m) -/
theorem call_maxSub {X : Cx} (hc : X.calm = true) : CallR X (.builtin "max") (fun xs H Q => ∃ n m : Nat, xs = [.int 0, .int ((n : Int) - (m : Int))] ∧ Q (.int ((n - m : Nat) : Int)) H) := by
  intro pins s σ H xs us Q I r h
  obtain ⟨n, m, rfl, q⟩ := h
  refine call_max2 hc pins s σ H _ us Q I r ⟨0, _, rfl, ?_⟩
  have e : (if (n : Int) - (m : Int) > 0 then (n : Int) - (m : Int) else 0) = ((n - m : Nat) : Int) := by split <;> omega
  rw [e]
  exact q
/-- a row's numbers as values -/
def vN (n : Nat) : V := .int (n : Int)
def castN (l : List Nat) : List Int := l.map fun n : Nat => (n : Int)
theorem cast_map (l : List Nat) : (castN l).map V.int = l.map vN := by
  unfold castN
  rw [List.map_map]
  rfl
theorem castN_toNat (l : List Nat) : (castN l).map Int.toNat = l := cast_nat l
theorem zeros (m : Nat) : (List.replicate m ([.int 0] : List V)).flatten = (List.replicate m 0).map vN := by
  induction m with
  | zero => rfl
  | succ m ih => rw [List.replicate_succ, List.flatten_cons, ih]; rfl
end Hr
namespace Hr
open PySem PySem.Spec PyProof.Rows L2
theorem ixN_row {k : Nat} {l : List Nat} {g : Nat → Nat} {j i : Nat} (h : i < 32) : ixN ((part k l g j).map vN).length (i : Int) = some i := by
  rw [List.length_map]
  unfold part
  rw [each_len]
  unfold ixN
  rw [if_pos (by omega), if_pos (by omega), Int.toNat_natCast]
end Hr
namespace Hr
open PySem PySem.Spec PyProof.Rows L2
/-! ### and, or, chains whose further parts change nothing: one way -/
theorem and_pure {c d : Bool} {tb : TE} {σ : L2.St} {H : Hp} {Q : VK} (h : ∀ Q' : VK, Q' (.bl d) H → tb σ H Q') (q : Q (.bl (c && d)) H) : if c = true then tb σ H Q else Q (.bl false) H := by
  cases c
  · exact iteF q
  · exact iteT (h Q q)
theorem or_pure {c d : Bool} {tb : TE} {σ : L2.St} {H : Hp} {Q : VK} (h : ∀ Q' : VK, Q' (.bl d) H → tb σ H Q') (q : Q (.bl (c || d)) H) : if c = true then Q (.bl true) H else tb σ H Q := by
  cases c
  · exact iteF (h Q q)
  · exact iteT q
theorem chain_pure {c d : Bool} {tc : TE} {r : R2} {y : V} {σ : L2.St} {H : Hp} {Q : VK} (h : ∀ Q' : VK, Q' (.bl d) H → tc σ H fun w H4 => r y w H4 Q') (q : Q (.bl (c && d)) H) : if c = true then (tc σ H fun w H4 => r y w H4 Q) else Q (.bl false) H := by
  cases c
  · exact iteF q
  · exact iteT (h Q q)
/-- int(n) -/
theorem call_intN {X : Cx} : CallR X (.type "int") (fun xs H Q => ∃ n : Nat, xs = [.int (n : Int)] ∧ Q (.int (n : Int)) H) := by
  intro pins s σ H xs us Q I r h
  obtain ⟨n, rfl, q⟩ := h
  exact call_int1 pins s σ H _ us Q I r (.inl ⟨_, rfl, q⟩)
theorem cast_sum : ∀ l : List Nat, (castN l).sum = ((l.sum : Nat) : Int)
  | [] => rfl
  | x :: r => by
    show ((x : Int) :: castN r).sum = _
    rw [List.sum_cons, cast_sum r, List.sum_cons, Int.natCast_add]
theorem take_next {α : Type} {l : List α} {i : Nat} {x : α} (h : l[i]? = some x) : l.take (i + 1) = l.take i ++ [x] := by
  rw [List.take_add_one, h]
  rfl
theorem same_upd {H H' : Hp} {D : Addr} {o : HO} (s : Same H H') (n : H D = none) : Same H (upd H' D o) := fun b u e => by
  rw [upd_ne (ne_of_none e n)]
  exact s b u e
end Hr

namespace Hr
open PySem PySem.Spec PyProof.Rows L2
def topS (i : Nat) : Stmt := PySem.Challenge.pw_halfrows_s02_compare.main.body.getD i (.Pass ⟨0, 0, 0, 0⟩)
abbrev s_is_negative : Stmt := topS 3
theorem sc_is_negative : FnScope ["bits"] ["bits"] (defScope s_is_negative) := ⟨rfl, rfl, rfl, by decide +kernel, rfl, by decide +kernel, by decide +kernel⟩
def sp_is_negative : Sp := fun vs H Q _ => ∃ x : Nat, vs = [.int (x : Int)] ∧ x < 65536 ∧ Q (.bl (Sv03.minus x)) H
abbrev s_size_bits : Stmt := topS 4
theorem sc_size_bits : FnScope ["bits"] ["bits"] (defScope s_size_bits) := ⟨rfl, rfl, rfl, by decide +kernel, rfl, by decide +kernel, by decide +kernel⟩
def sp_size_bits : Sp := fun vs H Q _ => ∃ x : Nat, vs = [.int (x : Int)] ∧ Q (.int ((Sv03.mag x : Nat) : Int)) H
abbrev s_is_nan : Stmt := topS 5
theorem sc_is_nan : FnScope ["bits"] ["bits"] (defScope s_is_nan) := ⟨rfl, rfl, rfl, by decide +kernel, rfl, by decide +kernel, by decide +kernel⟩
def sp_is_nan : Sp := fun vs H Q _ => ∃ x : Nat, vs = [.int (x : Int)] ∧ Q (.bl (Sv03.isNan x)) H
abbrev s_is_zero : Stmt := topS 6
theorem sc_is_zero : FnScope ["bits"] ["bits"] (defScope s_is_zero) := ⟨rfl, rfl, rfl, by decide +kernel, rfl, by decide +kernel, by decide +kernel⟩
def sp_is_zero : Sp := fun vs H Q _ => ∃ x : Nat, vs = [.int (x : Int)] ∧ Q (.bl (Sv03.isZero x)) H
abbrev s_place_in_order : Stmt := topS 7
theorem sc_place_in_order : FnScope ["bits", "size"] ["bits"] (defScope s_place_in_order) := ⟨rfl, rfl, rfl, by decide +kernel, rfl, by decide +kernel, by decide +kernel⟩
def sp_place_in_order : Sp := fun vs H Q _ => ∃ x : Nat, vs = [.int (x : Int)] ∧ x < 65536 ∧ ∀ p, H p = none → Q (.ref p) (upd H p (.tup ((place x).map V.int)))
abbrev s_is_same : Stmt := topS 9
theorem sc_is_same : FnScope ["x", "y"] ["x", "y"] (defScope s_is_same) := ⟨rfl, rfl, rfl, by decide +kernel, rfl, by decide +kernel, by decide +kernel⟩
def sp_is_same : Sp := fun vs H Q _ => ∃ x y : Nat, vs = [.int (x : Int), .int (y : Int)] ∧ x < 65536 ∧ y < 65536 ∧ Q (.bl (Sv03.same x y)) H
abbrev s_is_less : Stmt := topS 10
theorem sc_is_less : FnScope ["x", "y"] ["x", "y"] (defScope s_is_less) := ⟨rfl, rfl, rfl, by decide +kernel, rfl, by decide +kernel, by decide +kernel⟩
theorem lex_place (x y : Nat) : HT.lexLt (place x) (place y) = decide (Sv03.rank x < Sv03.rank y) := by
  unfold place Sv03.rank
  cases Sv03.minus x <;> cases Sv03.minus y <;> simp only [Bool.false_eq_true, if_false, if_true, HT.lexLt] <;> rw [Bool.eq_iff_iff] <;> split <;> simp <;> omega
def sp_is_less : Sp := fun vs H Q _ => ∃ x y : Nat, vs = [.int (x : Int), .int (y : Int)] ∧ x < 65536 ∧ y < 65536 ∧ ∀ H', Same H H' → Q (.bl (Sv03.less x y)) H'
abbrev s_compared : Stmt := topS 11
theorem sc_compared : FnScope ["p", "x", "y", "some"] ["p", "x", "y"] (defScope s_compared) := ⟨rfl, rfl, rfl, by decide +kernel, rfl, by decide +kernel, by decide +kernel⟩
def sp_compared : Sp := fun vs H Q _ => ∃ p x y : Nat, vs = [.int (p : Int), .int (x : Int), .int (y : Int)] ∧ p ≤ 7 ∧ x < 65536 ∧ y < 65536 ∧ ∀ H', Same H H' → Q (.bl (Sv03.holds p x y)) H'
abbrev s_row_of : Stmt := topS 15
theorem sc_row_of : FnScope ["some"] ["some"] (defScope s_row_of) := ⟨rfl, rfl, rfl, by decide +kernel, rfl, by decide +kernel, by decide +kernel⟩
def sp_row_of (K : PySem.W.Frag) : Sp := fun vs H Q _ => ∃ (a : Addr) (l : List Nat), vs = [.ref a] ∧ SqL K H a (l.map vN) ∧ l.length ≤ 32 ∧
  ∀ H' p, Same H H' → H p = none → H' p = some (.lst ((Sv03.each (Sv03.at_ l)).map vN)) → Q (.ref p) H'
abbrev s_is_in : Stmt := topS 16
theorem sc_is_in : FnScope ["k", "lane"] ["k", "lane"] (defScope s_is_in) := ⟨rfl, rfl, rfl, by decide +kernel, rfl, by decide +kernel, by decide +kernel⟩
def sp_is_in : Sp := fun vs H Q _ => ∃ k i : Nat, vs = [.int (k : Int), .int (i : Int)] ∧ Q (.bl (k.testBit i)) H
abbrev s_mask_by : Stmt := topS 17
theorem sc_mask_by : FnScope ["truths", "lane", "truth"] ["truths"] (defScope s_mask_by) := ⟨rfl, rfl, rfl, by decide +kernel, rfl, by decide +kernel, by decide +kernel⟩
def sp_mask_by (K : PySem.W.Frag) : Sp := fun vs H Q _ => ∃ (p : Addr) (bs : List Bool), vs = [.ref p] ∧ SqL K H p (bs.map V.bl) ∧ bs.length ≤ 1000 ∧ ∀ H', Same H H' → Q (.int ((maskVal bs : Nat) : Int)) H'
abbrev s_compare : Stmt := topS 18
theorem sc_compare : FnScope ["k", "p", "a", "b", "first", "second", "lane"] ["k", "p", "a", "b"] (defScope s_compare) := ⟨rfl, rfl, rfl, by decide +kernel, rfl, by decide +kernel, by decide +kernel⟩
def sp_compare (K : PySem.W.Frag) : Sp := fun vs H Q _ => ∃ (k : Nat) (p : Int) (a b : Addr) (l y : List Nat), vs = [.int (k : Int), .int p, .ref a, .ref b] ∧ SqL K H a (l.map vN) ∧ l.length ≤ 32 ∧ (∀ n ∈ l, n < 65536) ∧ SqL K H b (y.map vN) ∧ y.length ≤ 32 ∧ (∀ n ∈ y, n < 65536) ∧
  ∀ H' r, H' r = some (.lst ((PySv03.compare k p (castN l) (castN y)).map V.int)) → Q (.ref r) H'
section
variable {P : Program} {w : World} {K : PySem.W.Frag} {mg : Str → Option Value} {base : Heap} {aW : Addr}
theorem ok_is_negative (R : Raw K mg "is_negative" s_is_negative ["bits"]) (c_SIGN : Cst mg "SIGN" (.int 32768)) : Def P w K mg base 1 "is_negative" ["bits"] sp_is_negative := by
  obtain ⟨f, fd, F, b, m⟩ := R
  refine ⟨f, fd, F.ok sc_is_negative (fun vs H Q E h => ?_) (fun cdv A outer s H vs Q E hr h => ?_), b, F.kp, m, look F⟩
  · obtain ⟨x, rfl, hx, q⟩ := h
    rfl
  · obtain ⟨x, rfl, hx, q⟩ := h
    refine ⟨_, (pss_one (ps_ret (pe_cmpR op_geNN (pv 0) (pe_cst c_SIGN) (nomark _)))), ?_⟩
    rw [minus_is hx] at q
    exact ⟨_, rfl, x, 32768, rfl, rfl, q⟩
theorem ok_size_bits (R : Raw K mg "size_bits" s_size_bits ["bits"]) (c_SIGN : Cst mg "SIGN" (.int 32768)) : Def P w K mg base 1 "size_bits" ["bits"] sp_size_bits := by
  obtain ⟨f, fd, F, b, m⟩ := R
  refine ⟨f, fd, F.ok sc_size_bits (fun vs H Q E h => ?_) (fun cdv A outer s H vs Q E hr h => ?_), b, F.kp, m, look F⟩
  · obtain ⟨x, rfl, q⟩ := h
    rfl
  · obtain ⟨x, rfl, q⟩ := h
    refine ⟨_, (pss_one (ps_ret (pe_op op_modNN (pv 0) (pe_cst c_SIGN)))), ?_⟩
    exact ⟨_, rfl, x, 32768, rfl, rfl, by decide, q⟩
theorem ok_is_nan (R : Raw K mg "is_nan" s_is_nan ["bits"]) (d_size_bits : Def P w K mg base 1 "size_bits" ["bits"] sp_size_bits) (c_INFINITY : Cst mg "INFINITY" (.int 31744)) : Def P w K mg base 2 "is_nan" ["bits"] sp_is_nan := by
  obtain ⟨f, fd, F, b, m⟩ := R
  refine ⟨f, fd, F.ok sc_is_nan (fun vs H Q E h => ?_) (fun cdv A outer s H vs Q E hr h => ?_), b, F.kp, m, look F⟩
  · obtain ⟨x, rfl, q⟩ := h
    rfl
  · obtain ⟨x, rfl, q⟩ := h
    refine ⟨_, (pss_one (ps_ret (pe_cmpR op_gtNN (pe_def d_size_bits (hr.mono (by decide)) (pa_cons (pv 0) pa_nil)) (pe_cst c_INFINITY) (nomark _)))), ?_⟩
    exact ⟨_, rfl, x, rfl, _, 31744, rfl, rfl, q⟩
theorem ok_is_zero (R : Raw K mg "is_zero" s_is_zero ["bits"]) (d_size_bits : Def P w K mg base 1 "size_bits" ["bits"] sp_size_bits) : Def P w K mg base 2 "is_zero" ["bits"] sp_is_zero := by
  obtain ⟨f, fd, F, b, m⟩ := R
  refine ⟨f, fd, F.ok sc_is_zero (fun vs H Q E h => ?_) (fun cdv A outer s H vs Q E hr h => ?_), b, F.kp, m, look F⟩
  · obtain ⟨x, rfl, q⟩ := h
    rfl
  · obtain ⟨x, rfl, q⟩ := h
    refine ⟨_, (pss_one (ps_ret (pe_cmpR op_eqNN (pe_def d_size_bits (hr.mono (by decide)) (pa_cons (pv 0) pa_nil)) pe_int (nomark _)))), ?_⟩
    rw [isZero_is] at q
    exact ⟨_, rfl, x, rfl, _, 0, rfl, rfl, q⟩
theorem ok_place_in_order (R : Raw K mg "place_in_order" s_place_in_order ["bits"]) (d_is_negative : Def P w K mg base 1 "is_negative" ["bits"] sp_is_negative) (d_size_bits : Def P w K mg base 1 "size_bits" ["bits"] sp_size_bits) : Def P w K mg base 2 "place_in_order" ["bits"] sp_place_in_order := by
  obtain ⟨f, fd, F, b, m⟩ := R
  refine ⟨f, fd, F.ok sc_place_in_order (fun vs H Q E h => ?_) (fun cdv A outer s H vs Q E hr h => ?_), b, F.kp, m, look F⟩
  · obtain ⟨x, rfl, hx, q⟩ := h
    rfl
  · obtain ⟨x, rfl, hx, q⟩ := h
    refine ⟨_, (pss_cons (ps_set (i := 1) sc_place_in_order.nd rfl (Or.inl rfl) (pe_def d_size_bits (hr.mono (by decide)) (pa_cons (pv 0) pa_nil)))
      (pss_cons (ps_if (pt_val (pe_def d_is_negative (hr.mono (by decide)) (pa_cons (pv 0) pa_nil))) (pss_one (ps_ret (pe_tup (pa_cons (pe_un un_neg (pv 1)) (pa_cons pe_int pa_nil))))) pss_nil)
      (pss_one (ps_ret (pe_tup (pa_cons (pv 1) (pa_cons pe_int pa_nil))))))), ?_⟩
    unfold place at q
    refine ⟨_, rfl, x, rfl, ?_⟩
    refine ⟨_, rfl, x, rfl, hx, _, rfl, ite2 (fun e => ?_) (fun e => ?_)⟩
    · rw [if_pos e] at q
      exact ⟨_, rfl, _, rfl, by show 2 ≤ sizeLine; decide, fun p np => q p np⟩
    · rw [if_neg e] at q
      exact ⟨_, rfl, by show 2 ≤ sizeLine; decide, fun p np => q p np⟩
theorem ok_is_same (R : Raw K mg "is_same" s_is_same ["x", "y"]) (d_is_zero : Def P w K mg base 2 "is_zero" ["bits"] sp_is_zero) (d_is_nan : Def P w K mg base 2 "is_nan" ["bits"] sp_is_nan) : Def P w K mg base 3 "is_same" ["x", "y"] sp_is_same := by
  obtain ⟨f, fd, F, b, m⟩ := R
  refine ⟨f, fd, F.ok sc_is_same (fun vs H Q E h => ?_) (fun cdv A outer s H vs Q E hr h => ?_), b, F.kp, m, look F⟩
  · obtain ⟨x, y, rfl, hx, hy, q⟩ := h
    rfl
  · obtain ⟨x, y, rfl, hx, hy, q⟩ := h
    refine ⟨_, (pss_cons (ps_if (PW.pt (pw_or (pt_val (pe_def d_is_nan (hr.mono (by decide)) (pa_cons (pv 0) pa_nil))) (pw_or1 (pt_val (pe_def d_is_nan (hr.mono (by decide)) (pa_cons (pv 1) pa_nil)))))) (pss_one (ps_ret pe_bl)) pss_nil)
      (pss_one (ps_ret (pe_or (pe_cmpR op_eqNN (pv 0) (pv 1) (nomark _)) (pe_one (pe_and (pe_def d_is_zero (hr.mono (by decide)) (pa_cons (pv 0) pa_nil)) (pe_one (pe_def d_is_zero (hr.mono (by decide)) (pa_cons (pv 1) pa_nil))))))))), ?_⟩
    have no : (Sv03.isNan x || Sv03.isNan y) = true → Q (.bl false) H := fun z => by
      rw [same_nan z] at q
      exact q
    refine ⟨_, rfl, x, rfl, _, rfl, ite2 (fun e => iteT (no (by rw [e]; rfl))) (fun e => ⟨_, rfl, y, rfl, _, rfl, ite2 (fun e1 => no (by rw [e1, Bool.or_true])) (fun e1 => ?_)⟩)⟩
    rw [← same_is hx hy (Bool.eq_false_iff.mpr e) (Bool.eq_false_iff.mpr e1)] at q
    refine ⟨_, rfl, _, rfl, x, y, rfl, rfl, _, rfl, or_pure (d := Sv03.isZero x && Sv03.isZero y) (fun Q' k => ⟨_, rfl, x, rfl, _, rfl, and_pure (d := Sv03.isZero y) (fun Q2 k2 => ⟨_, rfl, y, rfl, k2⟩) k⟩) q⟩
theorem ok_is_less (R : Raw K mg "is_less" s_is_less ["x", "y"]) (d_place_in_order : Def P w K mg base 2 "place_in_order" ["bits"] sp_place_in_order) (d_is_same : Def P w K mg base 3 "is_same" ["x", "y"] sp_is_same) (d_is_nan : Def P w K mg base 2 "is_nan" ["bits"] sp_is_nan) : Def P w K mg base 4 "is_less" ["x", "y"] sp_is_less := by
  obtain ⟨f, fd, F, b, m⟩ := R
  refine ⟨f, fd, F.ok sc_is_less (fun vs H Q E h => ?_) (fun cdv A outer s H vs Q E hr h => ?_), b, F.kp, m, look F⟩
  · obtain ⟨x, y, rfl, hx, hy, q⟩ := h
    rfl
  · obtain ⟨x, y, rfl, hx, hy, q⟩ := h
    refine ⟨_, (pss_cons (ps_if (PW.pt (pw_or (pt_val (pe_def d_is_nan (hr.mono (by decide)) (pa_cons (pv 0) pa_nil))) (pw_or (pt_val (pe_def d_is_nan (hr.mono (by decide)) (pa_cons (pv 1) pa_nil))) (pw_or1 (pt_val (pe_def d_is_same (hr.mono (by decide)) (pa_cons (pv 0) (pa_cons (pv 1) pa_nil)))))))) (pss_one (ps_ret pe_bl)) pss_nil)
      (pss_one (ps_ret (pe_cmpR (op_ltT hr.units0) (pe_def d_place_in_order (hr.mono (by decide)) (pa_cons (pv 0) pa_nil)) (pe_def d_place_in_order (hr.mono (by decide)) (pa_cons (pv 1) pa_nil)) (nomark _))))), ?_⟩
    have no : (Sv03.isNan x || (Sv03.isNan y || Sv03.same x y)) = true → Q (.bl false) H := fun z => by
      rw [less_nan z] at q
      exact q _ (Same.refl _)
    refine ⟨_, rfl, x, rfl, _, rfl, ite2 (fun e => iteT (no (by rw [e]; rfl))) (fun e => ⟨_, rfl, y, rfl, _, rfl, ite2 (fun e1 => iteT (no (by rw [e1, Bool.true_or, Bool.or_true]))) (fun e1 => ⟨_, rfl, _, rfl, x, y, rfl, hx, hy, _, rfl, ite2 (fun e2 => no (by rw [e2, Bool.or_true, Bool.or_true])) (fun e2 => ?_)⟩)⟩)⟩
    rw [less_rank (Bool.eq_false_iff.mpr e) (Bool.eq_false_iff.mpr e1) (Bool.eq_false_iff.mpr e2), ← lex_place] at q
    refine ⟨_, rfl, x, rfl, hx, fun p1 n1 => ⟨_, rfl, y, rfl, hy, fun p2 n2 => ?_⟩⟩
    have s2 := same_new (o := .tup ((place y).map V.int)) n2
    exact ⟨p1, p2, place x, place y, rfl, rfl, SqT.of (s2 _ _ upd_same), SqT.of upd_same, q _ ((same_new n1).trans s2)⟩
theorem ok_compared (R : Raw K mg "compared" s_compared ["p", "x", "y"]) (d_is_nan : Def P w K mg base 2 "is_nan" ["bits"] sp_is_nan) (d_is_same : Def P w K mg base 3 "is_same" ["x", "y"] sp_is_same) (d_is_less : Def P w K mg base 4 "is_less" ["x", "y"] sp_is_less) : Def P w K mg base 5 "compared" ["p", "x", "y"] sp_compared := by
  obtain ⟨f, fd, F, b, m⟩ := R
  refine ⟨f, fd, F.ok sc_compared (fun vs H Q E h => ?_) (fun cdv A outer s H vs Q E hr h => ?_), b, F.kp, m, look F⟩
  · obtain ⟨p, x, y, rfl, hp, hx, hy, q⟩ := h
    rfl
  · obtain ⟨p, x, y, rfl, hp, hx, hy, q⟩ := h
    refine ⟨_, (pss_cons (ps_set (i := 3) sc_compared.nd rfl (Or.inl rfl) (pe_tup (pa_cons (pe_def d_is_same (hr.mono (by decide)) (pa_cons (pv 1) (pa_cons (pv 2) pa_nil))) (pa_cons (pe_def d_is_less (hr.mono (by decide)) (pa_cons (pv 1) (pa_cons (pv 2) pa_nil))) (pa_cons (pe_or (pe_def d_is_less (hr.mono (by decide)) (pa_cons (pv 1) (pa_cons (pv 2) pa_nil))) (pe_one (pe_def d_is_same (hr.mono (by decide)) (pa_cons (pv 1) (pa_cons (pv 2) pa_nil))))) (pa_cons (pe_or (pe_def d_is_nan (hr.mono (by decide)) (pa_cons (pv 1) pa_nil)) (pe_one (pe_def d_is_nan (hr.mono (by decide)) (pa_cons (pv 2) pa_nil)))) pa_nil))))))
      (pss_one (ps_ret (pe_cmpR op_neBB (pe_ix ix_tup (pv 3) (pe_op op_modNN (pv 0) pe_int) (fun _ _ => rfl)) (pe_cmpR op_gtNN (pv 0) pe_int (nomark _)) (nomark _))))), ?_⟩
    refine ⟨_, rfl, _, rfl, x, y, rfl, hx, hy, ?_⟩
    refine ⟨_, rfl, _, rfl, x, y, rfl, hx, hy, fun H1 s1 => ?_⟩
    refine ⟨_, rfl, _, rfl, x, y, rfl, hx, hy, fun H2 s2 => ⟨_, rfl, or_pure (d := Sv03.same x y) (fun Q' k => ⟨_, rfl, _, rfl, x, y, rfl, hx, hy, k⟩) ?_⟩⟩
    refine ⟨_, rfl, x, rfl, _, rfl, or_pure (d := Sv03.isNan y) (fun Q' k => ⟨_, rfl, y, rfl, k⟩) ?_⟩
    refine ⟨by show 4 ≤ sizeLine; decide, fun t nt => ?_⟩
    have h4 : p % 4 < 4 := Nat.mod_lt _ (by decide)
    obtain ⟨v, hv⟩ : ∃ v, ([Sv03.same x y, Sv03.less x y, Sv03.less x y || Sv03.same x y, Sv03.isNan x || Sv03.isNan y] : List Bool)[p % 4]? = some v := ⟨_, List.getElem?_eq_getElem h4⟩
    have g : ([.bl (Sv03.same x y), .bl (Sv03.less x y), .bl (Sv03.less x y || Sv03.same x y), .bl (Sv03.isNan x || Sv03.isNan y)] : List V)[p % 4]? = some (.bl v) := by
      show (([Sv03.same x y, Sv03.less x y, Sv03.less x y || Sv03.same x y, Sv03.isNan x || Sv03.isNan y] : List Bool).map V.bl)[p % 4]? = _
      rw [List.getElem?_map, hv]
      rfl
    rw [← holds_is v hp hv] at q
    exact ⟨_, rfl, _, rfl, p, 4, rfl, rfl, by decide, t, _, ((p % 4 : Nat) : Int), _, rfl, rfl, SqT.of upd_same, atI_nat g, _, rfl, p, 3, rfl, rfl, v, _, rfl, rfl, q _ ((s1.trans s2).trans (same_new nt))⟩
theorem ok_row_of (R : Raw K mg "row_of" s_row_of ["some"]) (c_LANES : Cst mg "LANES" (.int 32)) (z_len : mg "len" = none) : Def P w K mg base 1 "row_of" ["some"] (sp_row_of K) := by
  obtain ⟨f, fd, F, b, m⟩ := R
  refine ⟨f, fd, F.ok sc_row_of (fun vs H Q E h => ?_) (fun cdv A outer s H vs Q E hr h => ?_), b, F.kp, m, look F⟩
  · obtain ⟨a, l, rfl, hS, hl, q⟩ := h
    rfl
  · obtain ⟨a, l, rfl, hS, hl, q⟩ := h
    refine ⟨_, (pss_one (ps_ret (pe_op op_catL (pv 0) (pe_op op_rep (pe_lst (pa_cons pe_int pa_nil)) (pe_op L2.op_subN (pe_cst c_LANES) (pe_callB call_len_seq (by rfl) z_len (by decide +kernel) (pa_cons (pv 0) pa_nil))))))), ?_⟩
    have sz : 1000 < sizeLine := by decide
    refine ⟨_, rfl, by show 1 ≤ sizeLine; decide, fun p1 n1 => ?_⟩
    have s1 : Same H (upd H p1 (.lst [.int 0])) := same_new n1
    refine ⟨_, rfl, a, _, rfl, .inl (s1.seq hS), 32, (l.map vN).length, rfl, rfl, by rw [List.length_map]; exact hl, p1, _, _, rfl, rfl, upd_same, by omega, by omega, ?_, fun p2 n2 => ?_⟩
    · rw [Int.toNat_natCast]
      show 1 * _ ≤ _
      omega
    have s2 := same_new (o := .lst (List.replicate ((32 - (l.map vN).length : Nat) : Int).toNat ([.int 0] : List V)).flatten) n2
    refine ⟨a, p2, _, _, rfl, rfl, s2.seq (s1.seq hS), SqL.of upd_same, ?_, fun p3 n3 => ?_⟩
    · rw [Int.toNat_natCast, zeros, List.length_map, List.length_map, List.length_replicate]
      omega
    refine q _ p3 ((s1.trans s2).trans (same_new n3)) ((s1.trans s2).free n3) ?_
    rw [upd_same, Int.toNat_natCast, zeros, ← List.map_append, List.length_map, padded hl]
theorem ok_is_in (R : Raw K mg "is_in" s_is_in ["k", "lane"]) : Def P w K mg base 1 "is_in" ["k", "lane"] sp_is_in := by
  obtain ⟨f, fd, F, b, m⟩ := R
  refine ⟨f, fd, F.ok sc_is_in (fun vs H Q E h => ?_) (fun cdv A outer s H vs Q E hr h => ?_), b, F.kp, m, look F⟩
  · obtain ⟨k, i, rfl, q⟩ := h
    rfl
  · obtain ⟨k, i, rfl, q⟩ := h
    refine ⟨_, (pss_one (ps_ret (pe_cmpR op_eqNN (pe_op op_andNN (pe_op op_shrNN (pv 0) (pv 1)) pe_int) pe_int (nomark _)))), ?_⟩
    rw [← testBit_is] at q
    exact ⟨_, rfl, _, rfl, k, i, rfl, rfl, _, 1, rfl, rfl, _, 1, rfl, rfl, q⟩
theorem ok_mask_by (R : Raw K mg "mask_by" s_mask_by ["truths"]) (z_sum : mg "sum" = none) (z_enumerate : mg "enumerate" = none) (z_int : mg "int" = none) : Def P w K mg base 1 "mask_by" ["truths"] (sp_mask_by K) := by
  obtain ⟨f, fd, F, b, m⟩ := R
  refine ⟨f, fd, F.ok sc_mask_by (fun vs H Q E h => ?_) (fun cdv A outer s H vs Q E hr h => ?_), b, F.kp, m, look F⟩
  · obtain ⟨p, bs, rfl, hS, hl, q⟩ := h
    rfl
  · obtain ⟨p, bs, rfl, hS, hl, q⟩ := h
    refine ⟨_, (pss_one (ps_ret (pe_callB (cr_sum rfl) (by rfl) z_sum (by decide +kernel) (pa_cons (pe_lc (own := [("lane", 1), ("truth", 2)]) (g := gTup K 2 (gCons (gName 1) (gCons (gName 2) gNil))) (tt := tYes) rfl sc_mask_by.nd (pi_enum (by rfl) z_enumerate (pa_cons (pv 0) pa_nil)) (blkOk_by (own := [("lane", 1), ("truth", 2)]) (N := ["truths", "lane", "truth"]) (sc := defScope s_mask_by) (by decide +kernel)) (fun _ _ _ _ _ => (pg_tup rfl (pgs_cons (pg_name (i := 1) sc_mask_by.nd rfl (Or.inl rfl)) (pgs_cons (pg_name (i := 2) sc_mask_by.nd rfl (Or.inl rfl)) pgs_nil)))) (fun _ _ _ _ _ => pts_nil) (fun _ _ _ _ _ => (pe_op op_shlNN (pe_callTy call_intB (by rfl) z_int (by decide +kernel) (pa_cons (pv 2) pa_nil)) (pv 1)))) pa_nil)))), ?_⟩
    have sz : 2000 < sizeLine := by decide
    refine ⟨_, rfl, p, bs.map V.bl, rfl, hS, fun D nD => ?_⟩
    have ln : (bs.map V.bl).length = bs.length := List.length_map _
    refine lc_it (walk_enum (K := K) (a := p) (xs := bs.map V.bl)) (fun i H' => Same H H' ∧ H' D = some (.lst (((bs.zipIdx.map fun z => z.1.toNat * 2 ^ z.2).take i).map vN))) ⟨same_new nD, by rw [upd_same]; rfl⟩ (fun i H' _ z => z.1.seq hS) ?_ ?_
    · rintro i x H1 H' hi ⟨s3, h3⟩ ⟨T, x1, x2, rfl, nT, rfl, f1, f2⟩
      rw [ln] at hi
      have ex1 : x1 = .int (i : Int) := (Option.some.inj f1).symm
      subst ex1
      obtain ⟨b, eb⟩ : ∃ b, bs[i]? = some b := ⟨_, List.getElem?_eq_getElem hi⟩
      have ex2 : x2 = .bl b := by
        have f3 : (bs.map V.bl)[i]? = some x2 := f2
        rw [List.getElem?_map, eb] at f3
        exact (Option.some.inj f3).symm
      subst ex2
      have hD : (upd H1 T (.tup [.int (i : Int), .bl b])) D = some (.lst (((bs.zipIdx.map fun z => z.1.toNat * 2 ^ z.2).take i).map vN)) := by
        rw [upd_ne (ne_of_none h3 nT)]
        exact h3
      refine ⟨T, [.int (i : Int), .bl b], rfl, SqT.of upd_same, rfl, .int (i : Int), [.bl b], rfl, .bl b, [], rfl, rfl, ?_⟩
      refine ⟨rfl, _, rfl, b, rfl, _, rfl, b.toNat, i, 1, rfl, rfl, ⟨Bool.toNat_lt _, by omega⟩, _, hD, ?_, ?_, ?_⟩
      · rw [List.length_map, List.length_take, maskVal_len]
        omega
      · exact same_upd (s3.trans (same_new nT)) nD
      · rw [upd_same, take_next (maskVal_get eb), List.map_append]
        rfl
    · rintro H' ⟨s3, h3⟩
      rw [ln, List.take_of_length_le (by rw [maskVal_len]; exact Nat.le_refl _), ← cast_map] at h3
      refine ⟨D, _, rfl, SqL.of h3, ?_⟩
      rw [cast_sum]
      exact q _ s3
theorem ok_compare (R : Raw K mg "compare" s_compare ["k", "p", "a", "b"]) (d_mask_by : Def P w K mg base 1 "mask_by" ["truths"] (sp_mask_by K)) (d_compared : Def P w K mg base 5 "compared" ["p", "x", "y"] sp_compared) (d_is_in : Def P w K mg base 1 "is_in" ["k", "lane"] sp_is_in) (d_row_of : Def P w K mg base 1 "row_of" ["some"] (sp_row_of K)) (c_LANES : Cst mg "LANES" (.int 32)) (c_LAST_COMPARISON : Cst mg "LAST_COMPARISON" (.int 7)) (z_range : mg "range" = none) : Def P w K mg base 6 "compare" ["k", "p", "a", "b"] (sp_compare K) := by
  obtain ⟨f, fd, F, b, m⟩ := R
  refine ⟨f, fd, F.ok sc_compare (fun vs H Q E h => ?_) (fun cdv A outer s H vs Q E hr h => ?_), b, F.kp, m, look F⟩
  · obtain ⟨k, p, a, b, l, y, rfl, hS, hl, hb, hT, hy, hc, q⟩ := h
    rfl
  · obtain ⟨k, p, a, b, l, y, rfl, hS, hl, hb, hT, hy, hc, q⟩ := h
    refine ⟨_, (pss_cons (ps_set (i := 4) sc_compare.nd rfl (Or.inr rfl) (pe_def d_row_of (hr.mono (by decide)) (pa_cons (pv 2) pa_nil)))
      (pss_cons (ps_set (i := 5) sc_compare.nd rfl (Or.inr rfl) (pe_def d_row_of (hr.mono (by decide)) (pa_cons (pv 3) pa_nil)))
      (pss_cons (ps_if (pt_not (pt_chain op_le op_le pe_int (pv 1) (pe_cst c_LAST_COMPARISON))) (pss_one (ps_ret (pe_lst (pa_cons pe_int pa_nil)))) pss_nil)
      (pss_one (ps_ret (pe_lst (pa_cons (pe_def d_mask_by (hr.mono (by decide)) (pa_cons (pe_lc (own := [("lane", 6)]) (tt := tYes) rfl sc_compare.nd (pi_range1 (by rfl) z_range (pa_cons (pe_cst c_LANES) pa_nil)) (blkOk_by (own := [("lane", 6)]) (N := ["k", "p", "a", "b", "first", "second", "lane"]) (sc := defScope s_compare) (by decide +kernel)) (fun _ _ _ _ _ => (pg_name (i := 6) sc_compare.nd rfl (Or.inl rfl))) (fun _ _ _ _ _ => pts_nil) (fun _ _ _ _ _ => (pe_and (pe_def d_is_in (hr.mono (by decide)) (pa_cons (pv 0) (pa_cons (pv 6) pa_nil))) (pe_one (pe_def d_compared (hr.mono (by decide)) (pa_cons (pv 1) (pa_cons (pe_ix (show IxR _ (rIxL K) from ix_list) (pv 4) (pv 6) (fun _ _ => rfl)) (pa_cons (pe_ix (show IxR _ (rIxL K) from ix_list) (pv 5) (pv 6) (fun _ _ => rfl)) pa_nil)))))))) pa_nil)) pa_nil))))))), ?_⟩
    have sz : 1000 < sizeLine := by decide
    have due : PySv03.compare k p (castN l) (castN y) = [((if 0 ≤ p ∧ p ≤ 7 then Sv03.maskOf k (fun i => Sv03.holds p.toNat (Sv03.at_ l i) (Sv03.at_ y i)) else 0 : Nat) : Int)] := by
      show Sv03Neutral.f [[1, (k : Int), p], castN l, castN y] = _
      unfold Sv03Neutral.f
      show (match Sv03.spec (.compare (Sv03Neutral.n (castN l)) (Sv03Neutral.n (castN y)) (k : Int).toNat p) with | .vector l => l.map fun (x : Nat) => (x : Int) | .number z => [z] | .wrote z l => z :: (l.map fun (x : Nat) => (x : Int))) = _
      unfold Sv03Neutral.n
      rw [Int.toNat_natCast, castN_toNat, castN_toNat]
      unfold Sv03.spec
      dsimp only
      by_cases h : 0 ≤ p ∧ p ≤ 7
      · rw [if_pos h, if_pos h]
      · rw [if_neg h, if_neg h]
        rfl
    rw [due] at q
    refine ⟨_, rfl, a, l, rfl, hS, hl, fun H0 r s0 nr hr0 => ?_⟩
    refine ⟨_, rfl, b, y, rfl, s0.seq hT, hy, fun H1 u s1 nu hu1 => ?_⟩
    have hr1 := s1 _ _ hr0
    have no : ¬ (0 ≤ p ∧ p ≤ 7) → 1 ≤ sizeLine ∧ ∀ t, H1 t = none → Q (.ref t) (upd H1 t (.lst [.int 0])) := fun z => by
      rw [if_neg z] at q
      exact ⟨by omega, fun t nt => q _ t (by rw [upd_same]; rfl)⟩
    refine ⟨_, rfl, 0, p, rfl, rfl, _, rfl, ite2 (fun e1 => ?_) (fun e1 => ?_)⟩
    case refine_2 =>
      exact ⟨_, rfl, iteT (no fun z => e1 (decide_eq_true z.1))⟩
    refine ⟨p, 7, rfl, rfl, _, rfl, ite2 (fun e2 => ?_) (fun e2 => ?_)⟩
    · have : ¬ p ≤ 7 := by simpa using e2
      exact no fun z => this z.2
    have h0 : 0 ≤ p := of_decide_eq_true e1
    have h7 : p ≤ 7 := by simpa using e2
    rw [if_pos ⟨h0, h7⟩] at q
    obtain ⟨j, rfl⟩ := Int.eq_ofNat_of_zero_le h0
    rw [Int.toNat_natCast, ← maskOf_is] at q
    refine ⟨32, rfl, by decide, by decide, fun D nD => ?_⟩
    have gb : ∀ i, i < 32 → ((List.range 32).map fun i => k.testBit i && Sv03.holds j (Sv03.at_ l i) (Sv03.at_ y i))[i]? = some (k.testBit i && Sv03.holds j (Sv03.at_ l i) (Sv03.at_ y i)) := fun i hi => by
      rw [List.getElem?_map, List.getElem?_range hi]
      rfl
    have lb : ((List.range 32).map fun i => k.testBit i && Sv03.holds j (Sv03.at_ l i) (Sv03.at_ y i)).length = 32 := by simp
    generalize ((List.range 32).map fun i => k.testBit i && Sv03.holds j (Sv03.at_ l i) (Sv03.at_ y i)) = bs at q gb lb
    refine lc_range (lo := 0) (n := 32) (fun i H' => Same H1 H' ∧ H' D = some (.lst ((bs.take i).map V.bl))) ⟨same_new nD, by rw [upd_same]; rfl⟩ ?_ ?_
    · rintro i H' hi ⟨s3, h3⟩
      rw [Int.zero_add]
      have fin : ∀ (v : Bool) (H4 : Hp), v = (k.testBit i && Sv03.holds j (Sv03.at_ l i) (Sv03.at_ y i)) → Same H' H4 → ∃ acc, H4 D = some (.lst acc) ∧ acc.length < sizeLine ∧ Same H1 (upd H4 D (.lst (acc ++ [.bl v]))) ∧ (upd H4 D (.lst (acc ++ [.bl v]))) D = some (.lst ((bs.take (i + 1)).map V.bl)) := fun v H4 ev s4 => by
        refine ⟨_, s4 _ _ h3, ?_, same_upd (s3.trans s4) nD, ?_⟩
        · rw [List.length_map, List.length_take, lb]
          omega
        · rw [upd_same, take_next (gb i hi), List.map_append, ev]
          rfl
      have g1 : ((Sv03.each (Sv03.at_ l)).map vN)[i]? = some (.int ((Sv03.at_ l i : Nat) : Int)) := by
        rw [List.getElem?_map, each_get hi]
        rfl
      have g2 : ((Sv03.each (Sv03.at_ y)).map vN)[i]? = some (.int ((Sv03.at_ y i : Nat) : Int)) := by
        rw [List.getElem?_map, each_get hi]
        rfl
      refine ⟨rfl, _, rfl, _, rfl, k, i, rfl, _, rfl, ite2 (fun e => ?_) (fun e => ?_)⟩
      · refine ⟨_, rfl, _, rfl, _, rfl, r, _, (i : Int), _, rfl, rfl, SqL.of (s3 _ _ hr1), atI_nat g1, _, rfl, _, rfl, u, _, (i : Int), _, rfl, rfl, SqL.of (s3 _ _ hu1), atI_nat g2, j, Sv03.at_ l i, Sv03.at_ y i, rfl, by omega, at_lt (by decide) hb i, at_lt (by decide) hc i, fun H4 s4 => ?_⟩
        exact fin _ H4 (by rw [e, Bool.true_and]) s4
      · exact fin false H' (by rw [Bool.eq_false_iff.mpr e, Bool.false_and]) (Same.refl _)
    · rintro H' ⟨s3, h3⟩
      rw [List.take_of_length_le (by rw [lb]; exact Nat.le_refl _)] at h3
      refine ⟨D, bs, rfl, SqL.of h3, by omega, fun H5 s5 => ⟨by show 1 ≤ sizeLine; decide, fun t nt => q _ t ?_⟩⟩
      rw [upd_same]
      rfl
end
theorem all_mk {P : Program} {w : World} {K : PySem.W.Frag} {h : Heap} {mg : Str → Option Value} {fa : Addr} (X : K.In h) (G : h.Ns mainGlobals mg) (hfa : mg "compare" = some (.ref fa))
    {f1 : Addr} {od1 an1 : Option Addr} {sl1 : Array (Option Value)} {oc1 kV1 dc1 pm1 cd1 ct1 : Value} {f2 : Addr} {od2 an2 : Option Addr} {sl2 : Array (Option Value)} {oc2 kV2 dc2 pm2 cd2 ct2 : Value} {f3 : Addr} {od3 an3 : Option Addr} {sl3 : Array (Option Value)} {oc3 kV3 dc3 pm3 cd3 ct3 : Value} {f4 : Addr} {od4 an4 : Option Addr} {sl4 : Array (Option Value)} {oc4 kV4 dc4 pm4 cd4 ct4 : Value} {f5 : Addr} {od5 an5 : Option Addr} {sl5 : Array (Option Value)} {oc5 kV5 dc5 pm5 cd5 ct5 : Value} {f6 : Addr} {od6 an6 : Option Addr} {sl6 : Array (Option Value)} {oc6 kV6 dc6 pm6 cd6 ct6 : Value} {f7 : Addr} {od7 an7 : Option Addr} {sl7 : Array (Option Value)} {oc7 kV7 dc7 pm7 cd7 ct7 : Value} {f8 : Addr} {od8 an8 : Option Addr} {sl8 : Array (Option Value)} {oc8 kV8 dc8 pm8 cd8 ct8 : Value} {f9 : Addr} {od9 an9 : Option Addr} {sl9 : Array (Option Value)} {oc9 kV9 dc9 pm9 cd9 ct9 : Value} {f10 : Addr} {od10 an10 : Option Addr} {sl10 : Array (Option Value)} {oc10 kV10 dc10 pm10 cd10 ct10 : Value} {f11 : Addr} {od11 an11 : Option Addr} {sl11 : Array (Option Value)} {oc11 kV11 dc11 pm11 cd11 ct11 : Value} {f12 : Addr} {od12 an12 : Option Addr} {sl12 : Array (Option Value)} {oc12 kV12 dc12 pm12 cd12 ct12 : Value} {t1 : Tok} {t2 : Tok} {t3 : Tok} {t4 : Tok}
    (a1 : PySem.W.nsIn K mainGlobals "is_negative" = some (some (.ref f1))) (l1 : K.lookup f1 = some ⟨oc1, od1, .func (PySem.W.fnOf "is_negative" "is_negative" (defArgs s_is_negative) (defBody s_is_negative) (defScope s_is_negative) .none kV1 dc1 pm1 an1 cd1 ct1), sl1⟩) (k1 : PySem.W.codeIn K cd1 "is_negative" = true) (p1 : PySem.W.keepIn K (.ref f1) = true) (a2 : PySem.W.nsIn K mainGlobals "size_bits" = some (some (.ref f2))) (l2 : K.lookup f2 = some ⟨oc2, od2, .func (PySem.W.fnOf "size_bits" "size_bits" (defArgs s_size_bits) (defBody s_size_bits) (defScope s_size_bits) .none kV2 dc2 pm2 an2 cd2 ct2), sl2⟩) (k2 : PySem.W.codeIn K cd2 "size_bits" = true) (p2 : PySem.W.keepIn K (.ref f2) = true) (a3 : PySem.W.nsIn K mainGlobals "is_nan" = some (some (.ref f3))) (l3 : K.lookup f3 = some ⟨oc3, od3, .func (PySem.W.fnOf "is_nan" "is_nan" (defArgs s_is_nan) (defBody s_is_nan) (defScope s_is_nan) .none kV3 dc3 pm3 an3 cd3 ct3), sl3⟩) (k3 : PySem.W.codeIn K cd3 "is_nan" = true) (p3 : PySem.W.keepIn K (.ref f3) = true) (a4 : PySem.W.nsIn K mainGlobals "is_zero" = some (some (.ref f4))) (l4 : K.lookup f4 = some ⟨oc4, od4, .func (PySem.W.fnOf "is_zero" "is_zero" (defArgs s_is_zero) (defBody s_is_zero) (defScope s_is_zero) .none kV4 dc4 pm4 an4 cd4 ct4), sl4⟩) (k4 : PySem.W.codeIn K cd4 "is_zero" = true) (p4 : PySem.W.keepIn K (.ref f4) = true) (a5 : PySem.W.nsIn K mainGlobals "place_in_order" = some (some (.ref f5))) (l5 : K.lookup f5 = some ⟨oc5, od5, .func (PySem.W.fnOf "place_in_order" "place_in_order" (defArgs s_place_in_order) (defBody s_place_in_order) (defScope s_place_in_order) .none kV5 dc5 pm5 an5 cd5 ct5), sl5⟩) (k5 : PySem.W.codeIn K cd5 "place_in_order" = true) (p5 : PySem.W.keepIn K (.ref f5) = true) (a6 : PySem.W.nsIn K mainGlobals "is_same" = some (some (.ref f6))) (l6 : K.lookup f6 = some ⟨oc6, od6, .func (PySem.W.fnOf "is_same" "is_same" (defArgs s_is_same) (defBody s_is_same) (defScope s_is_same) .none kV6 dc6 pm6 an6 cd6 ct6), sl6⟩) (k6 : PySem.W.codeIn K cd6 "is_same" = true) (p6 : PySem.W.keepIn K (.ref f6) = true) (a7 : PySem.W.nsIn K mainGlobals "is_less" = some (some (.ref f7))) (l7 : K.lookup f7 = some ⟨oc7, od7, .func (PySem.W.fnOf "is_less" "is_less" (defArgs s_is_less) (defBody s_is_less) (defScope s_is_less) .none kV7 dc7 pm7 an7 cd7 ct7), sl7⟩) (k7 : PySem.W.codeIn K cd7 "is_less" = true) (p7 : PySem.W.keepIn K (.ref f7) = true) (a8 : PySem.W.nsIn K mainGlobals "compared" = some (some (.ref f8))) (l8 : K.lookup f8 = some ⟨oc8, od8, .func (PySem.W.fnOf "compared" "compared" (defArgs s_compared) (defBody s_compared) (defScope s_compared) .none kV8 dc8 pm8 an8 cd8 ct8), sl8⟩) (k8 : PySem.W.codeIn K cd8 "compared" = true) (p8 : PySem.W.keepIn K (.ref f8) = true) (a9 : PySem.W.nsIn K mainGlobals "row_of" = some (some (.ref f9))) (l9 : K.lookup f9 = some ⟨oc9, od9, .func (PySem.W.fnOf "row_of" "row_of" (defArgs s_row_of) (defBody s_row_of) (defScope s_row_of) .none kV9 dc9 pm9 an9 cd9 ct9), sl9⟩) (k9 : PySem.W.codeIn K cd9 "row_of" = true) (p9 : PySem.W.keepIn K (.ref f9) = true) (a10 : PySem.W.nsIn K mainGlobals "is_in" = some (some (.ref f10))) (l10 : K.lookup f10 = some ⟨oc10, od10, .func (PySem.W.fnOf "is_in" "is_in" (defArgs s_is_in) (defBody s_is_in) (defScope s_is_in) .none kV10 dc10 pm10 an10 cd10 ct10), sl10⟩) (k10 : PySem.W.codeIn K cd10 "is_in" = true) (p10 : PySem.W.keepIn K (.ref f10) = true) (a11 : PySem.W.nsIn K mainGlobals "mask_by" = some (some (.ref f11))) (l11 : K.lookup f11 = some ⟨oc11, od11, .func (PySem.W.fnOf "mask_by" "mask_by" (defArgs s_mask_by) (defBody s_mask_by) (defScope s_mask_by) .none kV11 dc11 pm11 an11 cd11 ct11), sl11⟩) (k11 : PySem.W.codeIn K cd11 "mask_by" = true) (p11 : PySem.W.keepIn K (.ref f11) = true) (a12 : PySem.W.nsIn K mainGlobals "compare" = some (some (.ref f12))) (l12 : K.lookup f12 = some ⟨oc12, od12, .func (PySem.W.fnOf "compare" "compare" (defArgs s_compare) (defBody s_compare) (defScope s_compare) .none kV12 dc12 pm12 an12 cd12 ct12), sl12⟩) (k12 : PySem.W.codeIn K cd12 "compare" = true) (p12 : PySem.W.keepIn K (.ref f12) = true) (g_SIGN : PySem.W.nsIn K mainGlobals "SIGN" = some (some (.int 32768 t1))) (g_INFINITY : PySem.W.nsIn K mainGlobals "INFINITY" = some (some (.int 31744 t2))) (g_LANES : PySem.W.nsIn K mainGlobals "LANES" = some (some (.int 32 t3))) (g_LAST_COMPARISON : PySem.W.nsIn K mainGlobals "LAST_COMPARISON" = some (some (.int 7 t4))) (z_enumerate : PySem.W.nsIn K mainGlobals "enumerate" = some none) (z_int : PySem.W.nsIn K mainGlobals "int" = some none) (z_len : PySem.W.nsIn K mainGlobals "len" = some none) (z_range : PySem.W.nsIn K mainGlobals "range" = some none) (z_sum : PySem.W.nsIn K mainGlobals "sum" = some none) :
    ∃ fd : FuncData, (∀ (s : Shared) (us : List Value), us.length = (["k", "p", "a", "b"] : List Str).length → BindsTo s fd ⟨us, []⟩ ((["k", "p", "a", "b"] : List Str).zip us)) ∧ ∀ base : Heap, K.In base → base.Ns mainGlobals mg → FnOk P w K mg base CX0 6 fa fd ["k", "p", "a", "b"] (sp_compare K) := by
  have c_SIGN : Cst mg "SIGN" (.int 32768) := ⟨_, PySem.W.mg_of X G g_SIGN, ⟨_, rfl⟩⟩
  have c_INFINITY : Cst mg "INFINITY" (.int 31744) := ⟨_, PySem.W.mg_of X G g_INFINITY, ⟨_, rfl⟩⟩
  have c_LANES : Cst mg "LANES" (.int 32) := ⟨_, PySem.W.mg_of X G g_LANES, ⟨_, rfl⟩⟩
  have c_LAST_COMPARISON : Cst mg "LAST_COMPARISON" (.int 7) := ⟨_, PySem.W.mg_of X G g_LAST_COMPARISON, ⟨_, rfl⟩⟩
  have y_enumerate := PySem.W.mg_none_of X G z_enumerate
  have y_int := PySem.W.mg_none_of X G z_int
  have y_len := PySem.W.mg_none_of X G z_len
  have y_range := PySem.W.mg_none_of X G z_range
  have y_sum := PySem.W.mg_none_of X G z_sum
  have R_is_negative : Raw K mg "is_negative" s_is_negative ["bits"] := raw_mk X G a1 l1 k1 p1 fun _ _ _ _ _ _ us hl => match us, hl with | [_], _ => rfl
  have R_size_bits : Raw K mg "size_bits" s_size_bits ["bits"] := raw_mk X G a2 l2 k2 p2 fun _ _ _ _ _ _ us hl => match us, hl with | [_], _ => rfl
  have R_is_nan : Raw K mg "is_nan" s_is_nan ["bits"] := raw_mk X G a3 l3 k3 p3 fun _ _ _ _ _ _ us hl => match us, hl with | [_], _ => rfl
  have R_is_zero : Raw K mg "is_zero" s_is_zero ["bits"] := raw_mk X G a4 l4 k4 p4 fun _ _ _ _ _ _ us hl => match us, hl with | [_], _ => rfl
  have R_place_in_order : Raw K mg "place_in_order" s_place_in_order ["bits"] := raw_mk X G a5 l5 k5 p5 fun _ _ _ _ _ _ us hl => match us, hl with | [_], _ => rfl
  have R_is_same : Raw K mg "is_same" s_is_same ["x", "y"] := raw_mk X G a6 l6 k6 p6 fun _ _ _ _ _ _ us hl => match us, hl with | [_, _], _ => rfl
  have R_is_less : Raw K mg "is_less" s_is_less ["x", "y"] := raw_mk X G a7 l7 k7 p7 fun _ _ _ _ _ _ us hl => match us, hl with | [_, _], _ => rfl
  have R_compared : Raw K mg "compared" s_compared ["p", "x", "y"] := raw_mk X G a8 l8 k8 p8 fun _ _ _ _ _ _ us hl => match us, hl with | [_, _, _], _ => rfl
  have R_row_of : Raw K mg "row_of" s_row_of ["some"] := raw_mk X G a9 l9 k9 p9 fun _ _ _ _ _ _ us hl => match us, hl with | [_], _ => rfl
  have R_is_in : Raw K mg "is_in" s_is_in ["k", "lane"] := raw_mk X G a10 l10 k10 p10 fun _ _ _ _ _ _ us hl => match us, hl with | [_, _], _ => rfl
  have R_mask_by : Raw K mg "mask_by" s_mask_by ["truths"] := raw_mk X G a11 l11 k11 p11 fun _ _ _ _ _ _ us hl => match us, hl with | [_], _ => rfl
  have R_compare : Raw K mg "compare" s_compare ["k", "p", "a", "b"] := raw_mk X G a12 l12 k12 p12 fun _ _ _ _ _ _ us hl => match us, hl with | [_, _, _, _], _ => rfl
  have F0 := R_compare
  have e := hfa.symm.trans (PySem.W.mg_of X G a12)
  cases e
  refine ⟨PySem.W.fnOf "compare" "compare" (defArgs s_compare) (defBody s_compare) (defScope s_compare) .none kV12 dc12 pm12 an12 cd12 ct12, fun s us hu => match us, hu with | [_, _, _, _], _ => .of_eq rfl, fun base kb nb => ?_⟩
  have d_is_negative : Def P w K mg base 1 "is_negative" ["bits"] sp_is_negative := ok_is_negative R_is_negative c_SIGN
  have d_size_bits : Def P w K mg base 1 "size_bits" ["bits"] sp_size_bits := ok_size_bits R_size_bits c_SIGN
  have d_is_nan : Def P w K mg base 2 "is_nan" ["bits"] sp_is_nan := ok_is_nan R_is_nan d_size_bits c_INFINITY
  have d_is_zero : Def P w K mg base 2 "is_zero" ["bits"] sp_is_zero := ok_is_zero R_is_zero d_size_bits
  have d_place_in_order : Def P w K mg base 2 "place_in_order" ["bits"] sp_place_in_order := ok_place_in_order R_place_in_order d_is_negative d_size_bits
  have d_is_same : Def P w K mg base 3 "is_same" ["x", "y"] sp_is_same := ok_is_same R_is_same d_is_zero d_is_nan
  have d_is_less : Def P w K mg base 4 "is_less" ["x", "y"] sp_is_less := ok_is_less R_is_less d_place_in_order d_is_same d_is_nan
  have d_compared : Def P w K mg base 5 "compared" ["p", "x", "y"] sp_compared := ok_compared R_compared d_is_nan d_is_same d_is_less
  have d_row_of : Def P w K mg base 1 "row_of" ["some"] (sp_row_of K) := ok_row_of R_row_of c_LANES y_len
  have d_is_in : Def P w K mg base 1 "is_in" ["k", "lane"] sp_is_in := ok_is_in R_is_in
  have d_mask_by : Def P w K mg base 1 "mask_by" ["truths"] (sp_mask_by K) := ok_mask_by R_mask_by y_sum y_enumerate y_int
  exact def_at (ok_compare R_compare d_mask_by d_compared d_is_in d_row_of c_LANES c_LAST_COMPARISON y_range) hfa l12

end Hr
open PySem PySem.W PyProof.Rows
set_option maxRecDepth 100000 in
set_option maxHeartbeats 0 in
theorem PySem.Challenge.cw_halfrows_s02_compare_holds : PySem.Challenge.rw_halfrows_s02_compare.Holds := by
  w_on; k_headS; (case hw => exact ⟨[.int 0, .int 0, .list [], .list []], by decide +kernel, by decide +kernel⟩)
  k_fillS
  refine L2.walk_specK (r := PySem.Challenge.rw_halfrows_s02_compare) (k := 6) (CX := L2.CX0) (ps := ["k", "p", "a", "b"]) (sp := fun K => Hr.sp_compare K) (by decide +kernel) rfl rfl ⟨rfl, by decide, by decide⟩ (fun w h Y => PySem.W.kIn_of Y) ?F ?S (fun _ _ _ _ z => z)
  case F =>
    intro w mg fa h Y KX G hmg
    refine' Hr.all_mk KX G hmg ?a1 ?l1 ?k1 ?p1 ?a2 ?l2 ?k2 ?p2 ?a3 ?l3 ?k3 ?p3 ?a4 ?l4 ?k4 ?p4 ?a5 ?l5 ?k5 ?p5 ?a6 ?l6 ?k6 ?p6 ?a7 ?l7 ?k7 ?p7 ?a8 ?l8 ?k8 ?p8 ?a9 ?l9 ?k9 ?p9 ?a10 ?l10 ?k10 ?p10 ?a11 ?l11 ?k11 ?p11 ?a12 ?l12 ?k12 ?p12 ?g_SIGN ?g_INFINITY ?g_LANES ?g_LAST_COMPARISON ?z_enumerate ?z_int ?z_len ?z_range ?z_sum
    (case a1 => k_is); (case l1 => k_is); (case k1 => k_is); (case p1 => k_is); (case a2 => k_is); (case l2 => k_is); (case k2 => k_is); (case p2 => k_is); (case a3 => k_is); (case l3 => k_is); (case k3 => k_is); (case p3 => k_is); (case a4 => k_is); (case l4 => k_is); (case k4 => k_is); (case p4 => k_is); (case a5 => k_is); (case l5 => k_is); (case k5 => k_is); (case p5 => k_is); (case a6 => k_is); (case l6 => k_is); (case k6 => k_is); (case p6 => k_is); (case a7 => k_is); (case l7 => k_is); (case k7 => k_is); (case p7 => k_is); (case a8 => k_is); (case l8 => k_is); (case k8 => k_is); (case p8 => k_is); (case a9 => k_is); (case l9 => k_is); (case k9 => k_is); (case p9 => k_is); (case a10 => k_is); (case l10 => k_is); (case k10 => k_is); (case p10 => k_is); (case a11 => k_is); (case l11 => k_is); (case k11 => k_is); (case p11 => k_is); (case a12 => k_is); (case l12 => k_is); (case k12 => k_is); (case p12 => k_is); (case g_SIGN => k_is); (case g_INFINITY => k_is); (case g_LANES => k_is); (case g_LAST_COMPARISON => k_is); (case z_enumerate => k_is); (case z_int => k_is); (case z_len => k_is); (case z_range => k_is); (case z_sum => k_is)
  case S =>
    intro K H xs a hO hwi hask hx
    obtain ⟨a1, a2, a3, a4, u⟩ := a
    cases hx with
    | cons h1 hx => cases hx with
    | cons h2 hx => cases hx with
    | cons h3 hx => cases hx with
    | cons h4 hx =>
      cases hx
      obtain rfl := Hr.dw_int1 h1
      obtain rfl := Hr.dw_int1 h2
      obtain ⟨p3, rfl, s3⟩ := Hr.dw_list1 (ns := a3) h3
      obtain ⟨p4, rfl, s4⟩ := Hr.dw_list1 (ns := a4) h4
      have w0 : (Codec.inInt 0 4294967295 a1 && (Codec.inInt (-2147483648) 2147483647 a2 && ((Codec.inLen 0 32 a3 && a3.all (Codec.inInt 0 65535)) && ((Codec.inLen 0 32 a4 && a4.all (Codec.inInt 0 65535)) && true)))) = true := hwi
      rw [Bool.and_eq_true, Bool.and_eq_true, Bool.and_eq_true] at w0
      obtain ⟨b1, b2, b3, b4⟩ := w0
      rw [Bool.and_true] at b4
      have b1 := Hr.in_int b1
      have b3 := Hr.in_list b3
      have b4 := Hr.in_list b4
      obtain ⟨n1, rfl⟩ := Int.eq_ofNat_of_zero_le b1.1
      obtain ⟨l3, rfl, c3⟩ := Hr.nats_of b3.2
      obtain ⟨l4, rfl, c4⟩ := Hr.nats_of b4.2
      have d3 := b3.1
      have d4 := b4.1
      rw [List.length_map] at d3 d4
      have s3' : L2.SqL K H p3 (l3.map Hr.vN) := by
        rw [← Hr.cast_map]
        exact s3
      have s4' : L2.SqL K H p4 (l4.map Hr.vN) := by
        rw [← Hr.cast_map]
        exact s4
      exact ⟨n1, a2, p3, p4, l3, l4, rfl, s3', d3, (fun n hn => by have := c3 n hn; omega), s4', d4, (fun n hn => by have := c4 n hn; omega), fun H' p hp => .lst (L2.SqL.of hp) (L2.dw_ints _)⟩
#print axioms PySem.Challenge.cw_halfrows_s02_compare_holds
