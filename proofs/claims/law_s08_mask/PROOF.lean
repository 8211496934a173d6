import PyProof.Rows.All
import Wide.All
import OpenK.AllK
import Wide.FinOn
import Open.SpecLaws
import KE.OsGo
import HandS.ForSpec
import HandS.Comp
import HandS.Iter
import HandS.Walk
import HandS.Wide
import HandS.WideBits
import HandS.TupLe
import HandS.Text
import PySem.Challenge.RW_halfrows_s08_mask
set_option Elab.async false
set_option linter.all false
set_option maxRecDepth 100000
set_option maxHeartbeats 4000000
namespace Hr
/-! ### masks -/
theorem low_flip {w x : Nat} (hx : x < 2 ^ w) (i : Nat) : (2 ^ w - 1 - x).testBit i = (decide (i < w) && !x.testBit i) := by
  rw [show 2 ^ w - 1 - x = 2 ^ w - (x + 1) by omega]
  exact Nat.testBit_two_pow_sub_succ hx i
theorem within_iff {w x y : Nat} (hx : x < 2 ^ w) (hy : y < 2 ^ w) : x &&& y = y ↔ (2 ^ w - 1 - x) &&& y = 0 := by
  constructor
  · intro h
    apply Nat.eq_of_testBit_eq
    intro i
    have e := congrArg (fun z => z.testBit i) h
    simp only [Nat.testBit_and, low_flip hx, Nat.zero_testBit] at e ⊢
    cases h1 : x.testBit i <;> cases h2 : y.testBit i <;> simp_all
  · intro h
    apply Nat.eq_of_testBit_eq
    intro i
    have e := congrArg (fun z => z.testBit i) h
    simp only [Nat.testBit_and, low_flip hx, Nat.zero_testBit] at e ⊢
    cases h2 : y.testBit i
    · simp
    · have hi : i < w := by
        rcases Nat.lt_or_ge i w with c | c
        · exact c
        · rw [Nat.testBit_lt_two_pow (Nat.lt_of_lt_of_le hy (Nat.pow_le_pow_right (by decide) c))] at h2
          cases h2
      simp_all
theorem toNat_dec (p : Prop) [Decidable p] : (decide p).toNat = if p then 1 else 0 := by
  by_cases h : p <;> simp [h]
theorem test_is (n a b : Nat) :
    (decide (a % (1 * 2 ^ n) ||| b % (1 * 2 ^ n) = 0)).toNat + 2 * (decide (a % (1 * 2 ^ n) ||| b % (1 * 2 ^ n) = 1 * 2 ^ n - 1)).toNat + 4 * (decide (a % (1 * 2 ^ n) &&& b % (1 * 2 ^ n) = 0)).toNat +
      8 * (decide (a % (1 * 2 ^ n) &&& b % (1 * 2 ^ n) = b % (1 * 2 ^ n))).toNat = Sv03.maskTest n a b := by
  rw [Nat.one_mul]
  have hp : 0 < 2 ^ n := Nat.pow_pos (by decide)
  have k := within_iff (Nat.mod_lt a hp) (Nat.mod_lt b hp)
  unfold Sv03.maskTest
  dsimp only
  simp only [toNat_dec, ← k]
  generalize a % 2 ^ n = x
  generalize b % 2 ^ n = y
  repeat' split
  all_goals omega
/-! what mask makes of two masks of w bits -/
theorem flip_xor {w x : Nat} (hx : x < 2 ^ w) : (2 ^ w - 1) ^^^ x = 2 ^ w - 1 - x := by
  apply Nat.eq_of_testBit_eq
  intro i
  rw [Nat.testBit_xor, low_flip hx, Nat.testBit_two_pow_sub_one]
  rcases Nat.lt_or_ge i w with c | c
  · simp [c]
  · rw [Nat.testBit_lt_two_pow (Nat.lt_of_lt_of_le hx (Nat.pow_le_pow_right (by decide) c))]
    simp [Nat.not_lt.mpr c]
theorem mk_mod {w x : Nat} (hx : x < 2 ^ w) : x % 2 ^ w = x := Nat.mod_eq_of_lt hx
/-- the seven of the table -/
def some7 (w x y : Nat) : List Nat := [x &&& y, y &&& ((1 * 2 ^ w - 1) ^^^ x), x ||| y, x ^^^ y, (1 * 2 ^ w - 1) ^^^ x ^^^ y, (1 * 2 ^ w - 1) ^^^ x, (x + y) % (1 * 2 ^ w)]
theorem some7_get {w x y k : Nat} (hx : x < 2 ^ w) (hy : y < 2 ^ w) (hk : k < 7) : (some7 w x y)[k]? = some (Sv03.maskDo w x y (k : Int)) := by
  have e4 : (2 ^ w - 1) ^^^ x ^^^ y = 2 ^ w - 1 - (x ^^^ y) := by
    rw [Nat.xor_assoc, flip_xor (Nat.xor_lt_two_pow hx hy)]
  unfold some7 Sv03.maskDo
  rw [Nat.one_mul]
  match k, hk with
  | 0, _ => simp [mk_mod hx, mk_mod hy]
  | 1, _ => simp [mk_mod hx, mk_mod hy, flip_xor hx, Nat.and_comm]
  | 2, _ => simp [mk_mod hx, mk_mod hy]
  | 3, _ => simp [mk_mod hx, mk_mod hy]
  | 4, _ => simp [mk_mod hx, mk_mod hy, e4]
  | 5, _ => simp [mk_mod hx, mk_mod hy, flip_xor hx]
  | 6, _ => simp [mk_mod hx, mk_mod hy]
theorem halves_is {w x y : Nat} (hx : x < 2 ^ w) (hy : y < 2 ^ w) : x % (1 * 2 ^ (w / 2)) * (1 * 2 ^ (w / 2)) + y % (1 * 2 ^ (w / 2)) = Sv03.maskDo w x y 9 := by
  unfold Sv03.maskDo
  simp [mk_mod hx, mk_mod hy]
theorem maskDo_low (w a b : Nat) (op : Int) (h7 : op ≠ 7) (h8 : op ≠ 8) : Sv03.maskDo w (a % 2 ^ w) (b % 2 ^ w) op = Sv03.maskDo w a b op := by
  unfold Sv03.maskDo
  simp [h7, h8]
theorem maskDo_moved (w a b : Nat) (op : Int) (h : op = 7 ∨ op = 8) : (if w ≤ b then 0 else if op = 7 then a % 2 ^ w * 2 ^ b % (1 * 2 ^ w) else a % 2 ^ w / 2 ^ b) = Sv03.maskDo w a b op := by
  unfold Sv03.maskDo
  rw [Nat.one_mul]
  rcases Nat.lt_or_ge b w with c | c
  · rw [if_neg (by omega)]
    rcases h with rfl | rfl <;> simp [c]
  · rw [if_pos c]
    rcases h with rfl | rfl <;> simp [Nat.not_lt.mpr c]
theorem maskDo_none (w a b : Nat) (op : Int) (h : ¬ (0 ≤ op ∧ op ≤ 9)) : Sv03.maskDo w a b op = 0 := by
  unfold Sv03.maskDo
  repeat' (first | rw [if_neg (by omega)])
end Hr

namespace Hr
open PySem PySem.Spec PyProof.Rows L2
/-! ### own words over the hand layer -/
/-- a module's constant -/
def Cst (mg : Str → Option Value) (x : Str) (v : V) : Prop := ∃ u, mg x = some u ∧ RelV v u
/-- a def of the text as it stands -/
def Raw (K : PySem.W.Frag) (mg : Str → Option Value) (x : Str) (st : Stmt) (ps : List Str) : Prop := ∃ f fd, Fun K x x st f fd ∧ Binds K fd ps [] ∧ mg x = some (.ref f)
/-- a def that keeps a promise -/
def Def (P : Program) (w : World) (K : PySem.W.Frag) (mg : Str → Option Value) (base : Heap) (k : Nat) (x : Str) (ps : List Str) (sp : Sp) : Prop :=
  ∃ f fd, FnOk P w K mg base CX0 k f fd ps sp ∧ Binds K fd ps [] ∧ PySem.W.keepIn K (.ref f) = true ∧ mg x = some (.ref f) ∧ ∃ oc od osl, K.lookup f = some ⟨oc, od, .func fd, osl⟩
theorem look {K : PySem.W.Frag} {x q : Str} {st : Stmt} {f : Addr} {fd : FuncData} (F : Fun K x q st f fd) : ∃ oc od osl, K.lookup f = some ⟨oc, od, .func fd, osl⟩ := by
  obtain ⟨oc, od, _, _, _, _, _, _, osl, _, lk, _⟩ := F.ex
  exact ⟨oc, od, osl, lk⟩
theorem pe_cst {X : Cx} {x : Str} {v : V} {pos : Pos} (c : Cst X.mg x v) (hg : Gl X x := by rfl) (hd : (x == ("__debug__" : Str)) = false := by decide) : PE X (.Name x pos) (tC v) := by
  obtain ⟨u, h, r⟩ := c
  exact pe_glob hg h r hd
theorem pe_def {X : Cx} {k : Nat} {x : Str} {ps : List Str} {sp : Sp} {p pos : Pos} {e : Expr} {es : List Expr} {t : TA} (D : Def X.prog X.w X.K X.mg X.base k x ps sp) (hr : Room k X.A) (ha : PA X (e :: es) t) (hg : Gl X x := by rfl)
    (hdb : (x == ("__debug__" : Str)) = false := by decide) (he : starEach (e :: es) X.env = (false, eval e X.env) :: starEach es X.env := by rfl) (hpl : (backTo pos (starEach es X.env)).any (·.1) = false := by rfl) :
    PE X (.Call (.Name x p) (e :: es) [] pos) (tCall sp [] E0 t) := by
  obtain ⟨f, fd, F, b, kp, m, _⟩ := D
  exact pe_call F hr hg m kp b .nil pass0 ha hdb he hpl
theorem raw_mk {K : PySem.W.Frag} {h : Heap} {mg : Str → Option Value} {x : Str} {st : Stmt} {ps : List Str} {f : Addr} {oc : Value} {od an : Option Addr} {osl : Array (Option Value)} {kV doc pm cdv ct : Value} (X : K.In h) (G : h.Ns mainGlobals mg)
    (a : PySem.W.nsIn K mainGlobals x = some (some (.ref f))) (l : K.lookup f = some ⟨oc, od, .func (PySem.W.fnOf x x (defArgs st) (defBody st) (defScope st) .none kV doc pm an cdv ct), osl⟩)
    (c : PySem.W.codeIn K cdv x = true) (k : PySem.W.keepIn K (.ref f) = true)
    (hb : ∀ (kV doc pm : Value) (an : Option Addr) (cdv ct : Value) (us : List Value), us.length = ps.length → bindArgs (PySem.W.fnOf x x (defArgs st) (defBody st) (defScope st) .none kV doc pm an cdv ct) ⟨us, []⟩ = pure (ps.zip us)) : Raw K mg x st ps := by
  have F := fun_mk (x := x) (qual := x) (st := st) l c k
  exact ⟨f, _, F, F.binds hb, PySem.W.mg_of X G a⟩
/-- the promise at the def's own function data -/
theorem def_at {P : Program} {w : World} {K : PySem.W.Frag} {mg : Str → Option Value} {base : Heap} {k : Nat} {x : Str} {ps : List Str} {sp : Sp} {f : Addr} {fd : FuncData} (D : Def P w K mg base k x ps sp) (hm : mg x = some (.ref f))
    {oc : Value} {od : Option Addr} {osl : Array (Option Value)} (l : K.lookup f = some ⟨oc, od, .func fd, osl⟩) : FnOk P w K mg base CX0 k f fd ps sp := by
  obtain ⟨f', fd', G, _, _, m, oc', od', osl', lk⟩ := D
  have e := hm.symm.trans m
  cases e
  have e2 := l.symm.trans lk
  cases e2
  exact G
/-- the table of widths -/
def SqW (K : PySem.W.Frag) (a : Addr) : Prop := ∀ H : Hp, SqT K H a [.int 8, .int 16, .int 32, .int 64]
theorem sqW_of {K : PySem.W.Frag} {a : Addr} {od : Option Addr} {n : Nat} {sl : Array (Option Value)} {t1 t2 t3 t4 : Tok} (l : K.lookup a = some ⟨.type "tuple", od, .seq #[.int 8 t1, .int 16 t2, .int 32 t3, .int 64 t4] n, sl⟩) : SqW K a := fun H =>
  .inr ⟨_, _, n, l, rfl, rfl, (by show 4 ≤ sizeLine; decide), .cons ⟨_, rfl⟩ (.cons ⟨_, rfl⟩ (.cons ⟨_, rfl⟩ (.cons ⟨_, rfl⟩ .nil)))⟩
theorem op_notInW {X : Cx} {a : Addr} (hW : SqW X.K a) : OpR X (compareOp .NotIn) (fun x y H Q => ∃ w : Int, x = .int w ∧ y = .ref a ∧ Q (.bl (!decide (w ∈ Sv03.widths))) H) := by
  intro pins s σ H x y v u Q I rx ry h
  obtain ⟨w, rfl, rfl, q⟩ := h
  refine op_notIn_seq pins s σ H _ _ v u Q I rx ry ⟨a, _, rfl, .inr (hW H), rfl, rfl, ?_⟩
  have e : inV (.int w) [.int 8, .int 16, .int 32, .int 64] = decide (w ∈ Sv03.widths) := by
    show ((8 : Int) == w || ((16 : Int) == w || ((32 : Int) == w || ((64 : Int) == w || false)))) = decide (w ∈ [8, 16, 32, 64])
    rw [Bool.eq_iff_iff]
    simp only [Bool.or_eq_true, beq_iff_eq, decide_eq_true_eq, List.mem_cons, List.not_mem_nil, Bool.false_eq_true, or_false]
    omega
  rw [e]
  exact q
theorem widths_nat {w : Int} (h : w ∈ Sv03.widths) : ∃ n : Nat, w = (n : Int) ∧ (n = 8 ∨ n = 16 ∨ n = 32 ∨ n = 64) := by
  simp [Sv03.widths] at h
  rcases h with h | h | h | h
  · exact ⟨8, h, by omega⟩
  · exact ⟨16, h, by omega⟩
  · exact ⟨32, h, by omega⟩
  · exact ⟨64, h, by omega⟩
theorem same_new {H : Hp} {p : Addr} (h : H p = none) {o : HO} : Same H (upd H p o) := fun b u q => by rw [upd_ne (ne_of_none q h)]; exact q
/-! ### operators upon numbers that are not negative -/
section
variable {X : Cx}
theorem op_modNN : OpR X (binaryOp .Mod) (fun x y H Q => ∃ n m : Nat, x = .int (n : Int) ∧ y = .int (m : Int) ∧ 0 < m ∧ Q (.int ((n % m : Nat) : Int)) H) := by
  intro pins s σ H x y v u Q I rx ry h
  obtain ⟨n, m, rfl, rfl, c, q⟩ := h
  rw [Int.natCast_emod] at q
  exact op_mod pins s σ H _ _ v u Q I rx ry ⟨_, _, rfl, rfl, by omega, q⟩
theorem op_fdivNW : OpR X (binaryOp .FloorDiv) (fun x y H Q => ∃ n m b : Nat, x = .int (n : Int) ∧ y = .int (m : Int) ∧ (0 < m ∧ m < 2 ^ b ∧ 0 < b ∧ b ≤ 9000) ∧ Q (.int ((n / m : Nat) : Int)) H) := by
  intro pins s σ H x y v u Q I rx ry h
  obtain ⟨n, m, b, rfl, rfl, ⟨c1, c2, c3, c4⟩, q⟩ := h
  rw [Int.natCast_ediv] at q
  exact op_fdivW pins s σ H _ _ v u Q I rx ry ⟨_, _, rfl, rfl, wide_div (by omega) (by simpa using c2) c3 c4, q⟩
theorem op_mulNW : OpR X (binaryOp .Mult) (fun x y H Q => ∃ n m a b : Nat, x = .int (n : Int) ∧ y = .int (m : Int) ∧ (n < 2 ^ a ∧ m < 2 ^ b ∧ 0 < a ∧ 0 < b ∧ a + b ≤ 1000000) ∧ Q (.int ((n * m : Nat) : Int)) H) := by
  intro pins s σ H x y v u Q I rx ry h
  obtain ⟨n, m, a, b, rfl, rfl, ⟨c1, c2, c3, c4, c5⟩, q⟩ := h
  rw [Int.natCast_mul] at q
  exact op_mulW pins s σ H _ _ v u Q I rx ry ⟨_, _, rfl, rfl, wide_mul (by simpa using c1) (by simpa using c2) c3 c4 c5, q⟩
theorem cast_two_pow (k : Nat) : (((2 ^ k : Nat) : Nat) : Int) = 2 ^ k := by
  rw [Int.natCast_pow]; rfl
theorem op_shlNN : OpR X (binaryOp .LShift) (fun x y H Q => ∃ n k b : Nat, x = .int (n : Int) ∧ y = .int (k : Int) ∧ (n < 2 ^ b ∧ b + k ≤ 100000) ∧ Q (.int ((n * 2 ^ k : Nat) : Int)) H) := by
  intro pins s σ H x y v u Q I rx ry h
  obtain ⟨n, k, b, rfl, rfl, ⟨c1, c2⟩, q⟩ := h
  rw [Int.natCast_mul, cast_two_pow] at q
  exact op_shlN pins s σ H _ _ v u Q I rx ry ⟨_, k, rfl, rfl, shl_ok (n := b) (by simpa using c1) (by omega), q⟩
theorem op_shrNN : OpR X (binaryOp .RShift) (fun x y H Q => ∃ n k : Nat, x = .int (n : Int) ∧ y = .int (k : Int) ∧ Q (.int ((n / 2 ^ k : Nat) : Int)) H) := by
  intro pins s σ H x y v u Q I rx ry h
  obtain ⟨n, k, rfl, rfl, q⟩ := h
  rw [Int.natCast_ediv, cast_two_pow] at q
  exact op_shrN pins s σ H _ _ v u Q I rx ry ⟨_, k, rfl, rfl, q⟩
theorem bitAnd_NN (n m : Nat) : Builtin.bitAnd (n : Int) (m : Int) = ((n &&& m : Nat) : Int) := by
  unfold Builtin.bitAnd
  simp
theorem op_andNN : OpR X (binaryOp .BitAnd) (fun x y H Q => ∃ n m : Nat, x = .int (n : Int) ∧ y = .int (m : Int) ∧ Q (.int ((n &&& m : Nat) : Int)) H) := by
  intro pins s σ H x y v u Q I rx ry h
  obtain ⟨n, m, rfl, rfl, q⟩ := h
  rw [← bitAnd_NN] at q
  exact op_and pins s σ H _ _ v u Q I rx ry ⟨_, _, rfl, rfl, q⟩
theorem op_orNN : OpR X (binaryOp .BitOr) (fun x y H Q => ∃ n m : Nat, x = .int (n : Int) ∧ y = .int (m : Int) ∧ Q (.int ((n ||| m : Nat) : Int)) H) := by
  intro pins s σ H x y v u Q I rx ry h
  obtain ⟨n, m, rfl, rfl, q⟩ := h
  have e := bitOr_nn (Int.natCast_nonneg n) (Int.natCast_nonneg m)
  rw [Int.toNat_natCast, Int.toNat_natCast] at e
  rw [← e] at q
  exact op_or pins s σ H _ _ v u Q I rx ry ⟨_, _, rfl, rfl, q⟩
theorem op_xorNN : OpR X (binaryOp .BitXor) (fun x y H Q => ∃ n m : Nat, x = .int (n : Int) ∧ y = .int (m : Int) ∧ Q (.int ((n ^^^ m : Nat) : Int)) H) := by
  intro pins s σ H x y v u Q I rx ry h
  obtain ⟨n, m, rfl, rfl, q⟩ := h
  have e := Bits.bitXor_pp (Int.natCast_nonneg n) (Int.natCast_nonneg m)
  rw [Int.toNat_natCast, Int.toNat_natCast] at e
  rw [← e] at q
  exact op_xor pins s σ H _ _ v u Q I rx ry ⟨_, _, rfl, rfl, q⟩
theorem op_ltNN : OpR X (compareOp .Lt) (fun x y H Q => ∃ n m : Nat, x = .int (n : Int) ∧ y = .int (m : Int) ∧ Q (.bl (decide (n < m))) H) := by
  intro pins s σ H x y v u Q I rx ry h
  obtain ⟨n, m, rfl, rfl, q⟩ := h
  exact op_lt pins s σ H _ _ v u Q I rx ry ⟨_, _, rfl, rfl, by simpa using q⟩
theorem op_leNN : OpR X (compareOp .LtE) (fun x y H Q => ∃ n m : Nat, x = .int (n : Int) ∧ y = .int (m : Int) ∧ Q (.bl (decide (n ≤ m))) H) := by
  intro pins s σ H x y v u Q I rx ry h
  obtain ⟨n, m, rfl, rfl, q⟩ := h
  exact op_le pins s σ H _ _ v u Q I rx ry ⟨_, _, rfl, rfl, by simpa using q⟩
theorem op_gtNN : OpR X (compareOp .Gt) (fun x y H Q => ∃ n m : Nat, x = .int (n : Int) ∧ y = .int (m : Int) ∧ Q (.bl (decide (m < n))) H) := by
  intro pins s σ H x y v u Q I rx ry h
  obtain ⟨n, m, rfl, rfl, q⟩ := h
  exact op_gt pins s σ H _ _ v u Q I rx ry ⟨_, _, rfl, rfl, by simpa using q⟩
theorem op_geNN : OpR X (compareOp .GtE) (fun x y H Q => ∃ n m : Nat, x = .int (n : Int) ∧ y = .int (m : Int) ∧ Q (.bl (decide (m ≤ n))) H) := by
  intro pins s σ H x y v u Q I rx ry h
  obtain ⟨n, m, rfl, rfl, q⟩ := h
  exact op_ge pins s σ H _ _ v u Q I rx ry ⟨_, _, rfl, rfl, by simpa using q⟩
theorem dec_int (n m : Int) : decide (V.int n = V.int m) = decide (n = m) := decide_eq_decide.mpr ⟨fun h => V.int.inj h, fun h => by rw [h]⟩
theorem dec_nat (n m : Nat) : decide (V.int (n : Int) = V.int (m : Int)) = decide (n = m) := by
  rw [dec_int]
  exact decide_eq_decide.mpr ⟨fun h => by omega, fun h => by omega⟩
theorem dec_bl (n m : Bool) : decide (V.bl n = V.bl m) = (n == m) := by cases n <;> cases m <;> decide
theorem op_eqNN : OpR X (compareOp .Eq) (fun x y H Q => ∃ n m : Nat, x = .int (n : Int) ∧ y = .int (m : Int) ∧ Q (.bl (decide (n = m))) H) := by
  intro pins s σ H x y v u Q I rx ry h
  obtain ⟨n, m, rfl, rfl, q⟩ := h
  exact op_eq pins s σ H _ _ v u Q I rx ry ⟨rfl, by rw [dec_nat]; exact q⟩
theorem op_neNN : OpR X (compareOp .NotEq) (fun x y H Q => ∃ n m : Nat, x = .int (n : Int) ∧ y = .int (m : Int) ∧ Q (.bl (!decide (n = m))) H) := by
  intro pins s σ H x y v u Q I rx ry h
  obtain ⟨n, m, rfl, rfl, q⟩ := h
  exact op_ne pins s σ H _ _ v u Q I rx ry ⟨rfl, by rw [dec_nat]; exact q⟩
theorem op_eqII : OpR X (compareOp .Eq) (fun x y H Q => ∃ n m : Int, x = .int n ∧ y = .int m ∧ Q (.bl (decide (n = m))) H) := by
  intro pins s σ H x y v u Q I rx ry h
  obtain ⟨n, m, rfl, rfl, q⟩ := h
  exact op_eq pins s σ H _ _ v u Q I rx ry ⟨rfl, by rw [dec_int]; exact q⟩
theorem op_eqBB : OpR X (compareOp .Eq) (fun x y H Q => ∃ n m : Bool, x = .bl n ∧ y = .bl m ∧ Q (.bl (n == m)) H) := by
  intro pins s σ H x y v u Q I rx ry h
  obtain ⟨n, m, rfl, rfl, q⟩ := h
  exact op_eq pins s σ H _ _ v u Q I rx ry ⟨rfl, by rw [dec_bl]; exact q⟩
theorem op_neBB : OpR X (compareOp .NotEq) (fun x y H Q => ∃ n m : Bool, x = .bl n ∧ y = .bl m ∧ Q (.bl (n != m)) H) := by
  intro pins s σ H x y v u Q I rx ry h
  obtain ⟨n, m, rfl, rfl, q⟩ := h
  exact op_ne pins s σ H _ _ v u Q I rx ry ⟨rfl, by rw [dec_bl]; exact q⟩
/-- int(flag) -/
theorem call_intB : CallR X (.type "int") (fun xs H Q => ∃ k : Bool, xs = [.bl k] ∧ Q (.int ((k.toNat : Nat) : Int)) H) := by
  intro pins s σ H xs us Q I r h
  obtain ⟨k, rfl, q⟩ := h
  refine call_int1 pins s σ H _ us Q I r (.inr ⟨k, rfl, ?_⟩)
  cases k <;> exact q
theorem call_absI : CallR X (.builtin "abs") (fun xs H Q => ∃ i : Int, xs = [.int i] ∧ Q (.int ((i.natAbs : Nat) : Int)) H) := by
  intro pins s σ H xs us Q I r h
  obtain ⟨i, rfl, q⟩ := h
  refine call_abs pins s σ H _ us Q I r ⟨i, rfl, ?_⟩
  have e : (if i < 0 then -i else i) = ((i.natAbs : Nat) : Int) := by split <;> omega
  rw [e]
  exact q
end
end Hr
namespace Hr
open PySem PySem.Spec PyProof.Rows L2
/-! ### the request -/
theorem dw_int1 {K : PySem.W.Frag} {H : Hp} {v : V} {i : Int} (h : Dw K H v (.int i)) : v = .int i := by
  cases h
  rfl
theorem dw_list1 {K : PySem.W.Frag} {H : Hp} {v : V} {ns : List Int} (h : Dw K H v (.list (ns.map PySem.W.WData.int))) : ∃ p, v = .ref p ∧ SqL K H p (ns.map V.int) := by
  generalize e : PySem.W.WData.list (ns.map PySem.W.WData.int) = d at h
  cases h <;> try cases e
  rename_i a xs hs ha
  exact ⟨a, rfl, by rw [← ints_dw ns xs ha]; exact hs⟩
theorem in_int {lo hi z : Int} (h : PySem.W.Codec.inInt lo hi z = true) : lo ≤ z ∧ z ≤ hi := PySem.W.Codec.inInt_iff.mp h
theorem in_list {m : Nat} {lo hi : Int} {ns : List Int} (h : (PySem.W.Codec.inLen 0 m ns && ns.all (PySem.W.Codec.inInt lo hi)) = true) : ns.length ≤ m ∧ ∀ z ∈ ns, lo ≤ z ∧ z ≤ hi := by
  rw [Bool.and_eq_true] at h
  refine ⟨(PySem.W.Codec.inNat_iff.mp h.1).2, fun z hz => in_int (List.all_eq_true.mp h.2 z hz)⟩
/-- a list of numbers that are not negative -/
theorem nats_of {ns : List Int} {hi : Int} (h : ∀ z ∈ ns, 0 ≤ z ∧ z ≤ hi) : ∃ l : List Nat, ns = l.map (fun n : Nat => (n : Int)) ∧ ∀ n ∈ l, (n : Int) ≤ hi := by
  refine ⟨ns.map Int.toNat, ?_, fun n hn => ?_⟩
  · rw [List.map_map]
    refine (List.map_id ns).symm.trans (List.map_congr_left fun z hz => ?_)
    have := h z hz
    show z = ((z.toNat : Nat) : Int)
    omega
  · obtain ⟨z, hz, rfl⟩ := List.mem_map.mp hn
    have := h z hz
    omega
end Hr

namespace Hr
open PySem PySem.Spec PyProof.Rows L2
def topS (i : Nat) : Stmt := PySem.Challenge.pw_halfrows_s08_mask.main.body.getD i (.Pass ⟨0, 0, 0, 0⟩)
abbrev s_moved : Stmt := topS 3
theorem sc_moved : FnScope ["a", "b", "op", "w"] ["a", "b", "op", "w"] (defScope s_moved) := ⟨rfl, rfl, rfl, by decide +kernel, rfl, by decide +kernel, by decide +kernel⟩
def sp_moved : Sp := fun vs H Q _ => ∃ (x b n : Nat) (op : Int), vs = [.int (x : Int), .int (b : Int), .int op, .int (n : Int)] ∧ x < 2 ^ 64 ∧ n ≤ 64 ∧ Q (.int ((if n ≤ b then 0 else if op = 7 then x * 2 ^ b % (1 * 2 ^ n) else x / 2 ^ b : Nat) : Int)) H
abbrev s_combined : Stmt := topS 4
theorem sc_combined : FnScope ["a", "b", "op", "w", "full", "half", "some"] ["a", "b", "op", "w"] (defScope s_combined) := ⟨rfl, rfl, rfl, by decide +kernel, rfl, by decide +kernel, by decide +kernel⟩
def sp_combined : Sp := fun vs H Q _ => ∃ (x y n : Nat) (op : Int), vs = [.int (x : Int), .int (y : Int), .int op, .int (n : Int)] ∧ x < 2 ^ n ∧ y < 2 ^ n ∧ n ≤ 64 ∧ 0 ≤ op ∧ op ≤ 9 ∧ op ≠ 7 ∧ op ≠ 8 ∧
  ∀ H', Same H H' → Q (.int ((Sv03.maskDo n x y op : Nat) : Int)) H'
abbrev s_mask_of : Stmt := topS 5
theorem sc_mask_of : FnScope ["a", "b", "op", "w", "low"] ["a", "b", "op", "w"] (defScope s_mask_of) := ⟨rfl, rfl, rfl, by decide +kernel, rfl, by decide +kernel, by decide +kernel⟩
def sp_mask_of : Sp := fun vs H Q _ => ∃ (a b : Nat) (op w : Int), vs = [.int (a : Int), .int (b : Int), .int op, .int w] ∧ a < 2 ^ 64 ∧ ∀ H', Same H H' → Q (.int ((if w ∈ Sv03.widths then Sv03.maskDo w.toNat a b op else 0 : Nat) : Int)) H'
abbrev s_mask : Stmt := topS 7
theorem sc_mask : FnScope ["a", "b", "op", "w"] ["a", "b", "op", "w"] (defScope s_mask) := ⟨rfl, rfl, rfl, by decide +kernel, rfl, by decide +kernel, by decide +kernel⟩
def sp_mask : Sp := fun vs H Q _ => ∃ (a b : Nat) (op w : Int), vs = [.int (a : Int), .int (b : Int), .int op, .int w] ∧ a < 2 ^ 64 ∧ ∀ H' p, H' p = some (.lst ((PySv03.mask a b op w).map V.int)) → Q (.ref p) H'
section
variable {P : Program} {w : World} {K : PySem.W.Frag} {mg : Str → Option Value} {base : Heap} {aW : Addr}
theorem ok_moved (R : Raw K mg "moved" s_moved ["a", "b", "op", "w"]) : Def P w K mg base 1 "moved" ["a", "b", "op", "w"] sp_moved := by
  obtain ⟨f, fd, F, b, m⟩ := R
  refine ⟨f, fd, F.ok sc_moved (fun vs H Q E h => ?_) (fun cdv A outer s H vs Q E hr h => ?_), b, F.kp, m, look F⟩
  · obtain ⟨x, b, n, op, rfl, hx, hn, q⟩ := h
    rfl
  · obtain ⟨x, b, n, op, rfl, hx, hn, q⟩ := h
    refine ⟨_, (pss_cons (ps_if (pt_cmpR op_geNN (pv 1) (pv 3) (nomark _)) (pss_one (ps_ret pe_int)) pss_nil)
      (pss_cons (ps_if (pt_cmpR op_eqII (pv 2) pe_int (nomark _)) (pss_one (ps_ret (pe_op op_modNN (pe_op op_shlNN (pv 0) (pv 1)) (pe_op op_shlNN pe_int (pv 3))))) pss_nil)
      (pss_one (ps_ret (pe_op op_shrNN (pv 0) (pv 1)))))), ?_⟩
    have hp : 0 < 1 * 2 ^ n := by rw [Nat.one_mul]; exact Nat.pow_pos (by decide)
    refine ⟨_, rfl, _, rfl, b, n, rfl, rfl, _, rfl, ite2 (fun e => ?_) (fun e => ?_)⟩
    · rw [if_pos (by simpa using e)] at q
      exact q
    · have e' : ¬ n ≤ b := by simpa using e
      rw [if_neg e'] at q
      refine ⟨_, rfl, op, 7, rfl, rfl, _, rfl, ite2 (fun e => ?_) (fun e => ?_)⟩
      · rw [if_pos (by simpa using e)] at q
        exact ⟨_, rfl, _, rfl, x, b, 64, rfl, rfl, ⟨hx, by omega⟩, _, rfl, 1, n, 1, rfl, rfl, ⟨by decide, by omega⟩, _, _, rfl, rfl, hp, q⟩
      · rw [if_neg (by simpa using e)] at q
        exact ⟨_, rfl, _, rfl, x, b, rfl, rfl, q⟩
theorem ok_combined (R : Raw K mg "combined" s_combined ["a", "b", "op", "w"]) : Def P w K mg base 1 "combined" ["a", "b", "op", "w"] sp_combined := by
  obtain ⟨f, fd, F, b, m⟩ := R
  refine ⟨f, fd, F.ok sc_combined (fun vs H Q E h => ?_) (fun cdv A outer s H vs Q E hr h => ?_), b, F.kp, m, look F⟩
  · obtain ⟨x, y, n, op, rfl, hx, hy, hn, h0, h9, h7, h8, q⟩ := h
    rfl
  · obtain ⟨x, y, n, op, rfl, hx, hy, hn, h0, h9, h7, h8, q⟩ := h
    refine ⟨_, (pss_cons (ps_set (i := 4) sc_combined.nd rfl (Or.inl rfl) (pe_op L2.op_subN (pe_op op_shlNN pe_int (pv 3)) pe_int))
      (pss_cons (ps_set (i := 5) sc_combined.nd rfl (Or.inl rfl) (pe_op op_shlNN pe_int (pe_op op_fdivNW (pv 3) pe_int)))
      (pss_cons (ps_set (i := 6) sc_combined.nd rfl (Or.inl rfl) (pe_tup (pa_cons (pe_op op_andNN (pv 0) (pv 1)) (pa_cons (pe_op op_andNN (pv 1) (pe_op op_xorNN (pv 4) (pv 0))) (pa_cons (pe_op op_orNN (pv 0) (pv 1)) (pa_cons (pe_op op_xorNN (pv 0) (pv 1)) (pa_cons (pe_op op_xorNN (pe_op op_xorNN (pv 4) (pv 0)) (pv 1)) (pa_cons (pe_op op_xorNN (pv 4) (pv 0)) (pa_cons (pe_op op_modNN (pe_op L2.op_addN (pv 0) (pv 1)) (pe_op op_shlNN pe_int (pv 3))) pa_nil)))))))))
      (pss_cons (ps_if (pt_cmpR op_lt (pv 2) pe_int (nomark _)) (pss_one (ps_ret (pe_ix ix_tup (pv 6) (pv 2) (fun _ _ => rfl)))) pss_nil)
      (pss_one (ps_ret (pe_op L2.op_addN (pe_op op_mulNW (pe_op op_modNN (pv 0) (pv 5)) (pv 5)) (pe_op op_modNN (pv 1) (pv 5))))))))), ?_⟩
    have hp : 0 < 1 * 2 ^ n := by rw [Nat.one_mul]; exact Nat.pow_pos (by decide)
    have hp2 : 0 < 1 * 2 ^ (n / 2) := by rw [Nat.one_mul]; exact Nat.pow_pos (by decide)
    have hx64 : x < 2 ^ 64 := Nat.lt_of_lt_of_le hx (Nat.pow_le_pow_right (by decide) hn)
    have hh : 1 * 2 ^ (n / 2) < 2 ^ 64 := by rw [Nat.one_mul]; exact Nat.pow_lt_pow_right (by decide) (by omega)
    obtain ⟨k, rfl⟩ := Int.eq_ofNat_of_zero_le h0
    refine ⟨_, rfl, 1, n, 1, rfl, rfl, ⟨by decide, by omega⟩, 1 * 2 ^ n, 1, rfl, rfl, hp, ?_⟩
    refine ⟨_, rfl, n, 2, 2, rfl, rfl, ⟨by decide, by decide, by decide, by decide⟩, 1, n / 2, 1, rfl, rfl, ⟨by decide, by omega⟩, ?_⟩
    refine ⟨_, rfl, _, rfl, _, _, rfl, rfl, ?_⟩
    refine ⟨_, rfl, _, rfl, _, rfl, _, _, rfl, rfl, _, _, rfl, rfl, ?_⟩
    refine ⟨_, rfl, _, rfl, _, _, rfl, rfl, ?_⟩
    refine ⟨_, rfl, _, rfl, _, _, rfl, rfl, ?_⟩
    refine ⟨_, rfl, _, rfl, _, _, rfl, rfl, _, rfl, _, _, rfl, rfl, ?_⟩
    refine ⟨_, rfl, _, rfl, _, _, rfl, rfl, ?_⟩
    refine ⟨_, rfl, _, rfl, _, _, rfl, rfl, _, rfl, 1, n, 1, rfl, rfl, ⟨by decide, by omega⟩, _, _, rfl, rfl, hp, ?_⟩
    refine ⟨by show 7 ≤ sizeLine; decide, fun p np => ?_⟩
    have sm : Same H (upd H p (.tup ((some7 n x y).map fun z : Nat => V.int (z : Int)))) := same_new np
    refine ⟨_, rfl, (k : Int), 7, rfl, rfl, _, rfl, ite2 (fun e => ?_) (fun e => ?_)⟩
    · have hk : k < 7 := by
        have := of_decide_eq_true e
        omega
      refine ⟨_, rfl, _, rfl, p, (some7 n x y).map (fun z : Nat => V.int (z : Int)), (k : Int), .int ((Sv03.maskDo n x y (k : Int) : Nat) : Int), rfl, rfl, SqT.of upd_same, atI_nat ?_, q _ sm⟩
      rw [List.getElem?_map, some7_get hx hy hk]
      rfl
    · have hk : k = 9 := by
        have := of_decide_eq_false (Bool.eq_false_iff.mpr e)
        omega
      subst hk
      refine ⟨_, rfl, _, rfl, x, 1 * 2 ^ (n / 2), rfl, rfl, hp2, _, rfl, _, 1 * 2 ^ (n / 2), 64, 64, rfl, rfl, ⟨Nat.lt_of_le_of_lt (Nat.mod_le _ _) hx64, hh, by decide, by decide, by decide⟩, _, rfl, _, rfl, y, 1 * 2 ^ (n / 2), rfl, rfl, hp2, _, _, rfl, rfl, ?_⟩
      rw [halves_is hx hy]
      exact q _ sm
theorem ok_mask_of (R : Raw K mg "mask_of" s_mask_of ["a", "b", "op", "w"]) (d_combined : Def P w K mg base 1 "combined" ["a", "b", "op", "w"] sp_combined) (d_moved : Def P w K mg base 1 "moved" ["a", "b", "op", "w"] sp_moved) (c_LAST_OP : Cst mg "LAST_OP" (.int 9)) (c_WIDTHS : Cst mg "WIDTHS" (.ref aW)) (hW : SqW K aW) : Def P w K mg base 2 "mask_of" ["a", "b", "op", "w"] sp_mask_of := by
  obtain ⟨f, fd, F, b, m⟩ := R
  refine ⟨f, fd, F.ok sc_mask_of (fun vs H Q E h => ?_) (fun cdv A outer s H vs Q E hr h => ?_), b, F.kp, m, look F⟩
  · obtain ⟨a, b, op, w, rfl, ha, q⟩ := h
    rfl
  · obtain ⟨a, b, op, w, rfl, ha, q⟩ := h
    refine ⟨_, (pss_cons (ps_if (PW.pt (pw_or (pt_cmpR (op_notInW hW) (pv 3) (pe_cst c_WIDTHS) (by rfl)) (pw_or1 (pt_not (pt_chain op_le op_le pe_int (pv 2) (pe_cst c_LAST_OP)))))) (pss_one (ps_ret pe_int)) pss_nil)
      (pss_cons (ps_set (i := 4) sc_mask_of.nd rfl (Or.inl rfl) (pe_op op_modNN (pv 0) (pe_op op_shlNN pe_int (pv 3))))
      (pss_cons (ps_if (PW.pt (pw_or (pt_cmpR op_eqII (pv 2) pe_int (nomark _)) (pw_or1 (pt_cmpR op_eqII (pv 2) pe_int (nomark _))))) (pss_one (ps_ret (pe_def d_moved (hr.mono (by decide)) (pa_cons (pv 4) (pa_cons (pv 1) (pa_cons (pv 2) (pa_cons (pv 3) pa_nil))))))) pss_nil)
      (pss_one (ps_ret (pe_def d_combined (hr.mono (by decide)) (pa_cons (pv 4) (pa_cons (pe_op op_modNN (pv 1) (pe_op op_shlNN pe_int (pv 3))) (pa_cons (pv 2) (pa_cons (pv 3) pa_nil)))))))))), ?_⟩
    refine ⟨_, rfl, w, rfl, rfl, _, rfl, ite2 (fun e => ?_) (fun e => ?_)⟩
    · have e' : ¬ w ∈ Sv03.widths := by simpa using e
      rw [if_neg e'] at q
      exact iteT (q _ (Same.refl _))
    have e' : w ∈ Sv03.widths := by simpa using e
    rw [if_pos e'] at q
    obtain ⟨n, rfl, hn⟩ := widths_nat e'
    rw [Int.toNat_natCast] at q
    have hp : 0 < 2 ^ n := Nat.pow_pos (by decide)
    have no : ¬ (0 ≤ op ∧ op ≤ 9) → Q (.int 0) H := fun z => by
      rw [maskDo_none n a b op z] at q
      exact q _ (Same.refl _)
    refine ⟨_, rfl, 0, op, rfl, rfl, _, rfl, ite2 (fun e1 => ?_) (fun e1 => ?_)⟩
    case refine_2 =>
      refine ⟨_, rfl, iteT (no fun z => e1 (decide_eq_true z.1))⟩
    refine ⟨op, 9, rfl, rfl, _, rfl, ite2 (fun e2 => ?_) (fun e2 => ?_)⟩
    · have : ¬ op ≤ 9 := by simpa using e2
      exact no fun z => this z.2
    have h0 : 0 ≤ op := of_decide_eq_true e1
    have h9 : op ≤ 9 := by simpa using e2
    refine ⟨_, rfl, _, rfl, 1, n, 1, rfl, rfl, ⟨by decide, by omega⟩, a, 1 * 2 ^ n, rfl, rfl, (by rw [Nat.one_mul]; exact hp), ?_⟩
    rw [Nat.one_mul]
    have lt : a % 2 ^ n < 2 ^ n := Nat.mod_lt _ hp
    have GO7 : op = 7 ∨ op = 8 → (sp_moved ([.int ((a % 2 ^ n : Nat) : Int), .int (b : Int), .int op, .int (n : Int)] ++ []) H Q E0) := fun z => by
      refine ⟨a % 2 ^ n, b, n, op, rfl, Nat.lt_of_le_of_lt (Nat.mod_le _ _) ha, by omega, ?_⟩
      rw [maskDo_moved n a b op z]
      exact q _ (Same.refl _)
    refine ⟨_, rfl, op, 7, rfl, rfl, _, rfl, ite2 (fun e3 => ?_) (fun e3 => ?_)⟩
    · exact iteT ⟨_, rfl, _, rfl, _, rfl, _, rfl, GO7 (.inl (of_decide_eq_true e3))⟩
    refine ⟨_, rfl, op, 8, rfl, rfl, _, rfl, ite2 (fun e4 => ?_) (fun e4 => ?_)⟩
    · exact ⟨_, rfl, _, rfl, _, rfl, _, rfl, GO7 (.inr (of_decide_eq_true e4))⟩
    have h7 : op ≠ 7 := fun z => e3 (decide_eq_true z)
    have h8 : op ≠ 8 := fun z => e4 (decide_eq_true z)
    refine ⟨_, rfl, _, rfl, _, rfl, 1, n, 1, rfl, rfl, ⟨by decide, by omega⟩, b, 1 * 2 ^ n, rfl, rfl, (by rw [Nat.one_mul]; exact hp), _, rfl, _, rfl, ?_⟩
    rw [Nat.one_mul]
    refine ⟨a % 2 ^ n, b % 2 ^ n, n, op, rfl, lt, Nat.mod_lt _ hp, by omega, h0, h9, h7, h8, fun H' s => ?_⟩
    rw [maskDo_low n a b op h7 h8]
    exact q _ s
theorem ok_mask (R : Raw K mg "mask" s_mask ["a", "b", "op", "w"]) (d_mask_of : Def P w K mg base 2 "mask_of" ["a", "b", "op", "w"] sp_mask_of) : Def P w K mg base 3 "mask" ["a", "b", "op", "w"] sp_mask := by
  obtain ⟨f, fd, F, b, m⟩ := R
  refine ⟨f, fd, F.ok sc_mask (fun vs H Q E h => ?_) (fun cdv A outer s H vs Q E hr h => ?_), b, F.kp, m, look F⟩
  · obtain ⟨a, b, op, w, rfl, ha, q⟩ := h
    rfl
  · obtain ⟨a, b, op, w, rfl, ha, q⟩ := h
    refine ⟨_, (pss_one (ps_ret (pe_lst (pa_cons (pe_def d_mask_of (hr.mono (by decide)) (pa_cons (pv 0) (pa_cons (pv 1) (pa_cons (pv 2) (pa_cons (pv 3) pa_nil))))) pa_nil)))), ?_⟩
    refine ⟨_, rfl, _, rfl, _, rfl, _, rfl, a, b, op, w, rfl, ha, fun H' s => ?_⟩
    refine ⟨by show 1 ≤ sizeLine; decide, fun p hp => ?_⟩
    refine q _ p ?_
    rw [upd_same]
    have e : PySv03.mask a b op w = [((if w ∈ Sv03.widths then Sv03.maskDo w.toNat a b op else 0 : Nat) : Int)] := by
      show Sv03Neutral.f [[7, (a : Int), (b : Int), op, w]] = _
      unfold Sv03Neutral.f
      show (match Sv03.spec (.mask (a : Int).toNat (b : Int).toNat op w) with | .vector l => l.map fun (x : Nat) => (x : Int) | .number z => [z] | .wrote z l => z :: (l.map fun (x : Nat) => (x : Int))) = _
      rw [Int.toNat_natCast, Int.toNat_natCast]
      unfold Sv03.spec
      dsimp only
      by_cases h : w ∈ Sv03.widths
      · rw [if_pos h, if_pos h]
      · rw [if_neg h, if_neg h]
        rfl
    rw [e]
    rfl
end
theorem all_mk {P : Program} {w : World} {K : PySem.W.Frag} {h : Heap} {mg : Str → Option Value} {fa : Addr} (X : K.In h) (G : h.Ns mainGlobals mg) (hfa : mg "mask" = some (.ref fa))
    {f1 : Addr} {od1 an1 : Option Addr} {sl1 : Array (Option Value)} {oc1 kV1 dc1 pm1 cd1 ct1 : Value} {f2 : Addr} {od2 an2 : Option Addr} {sl2 : Array (Option Value)} {oc2 kV2 dc2 pm2 cd2 ct2 : Value} {f3 : Addr} {od3 an3 : Option Addr} {sl3 : Array (Option Value)} {oc3 kV3 dc3 pm3 cd3 ct3 : Value} {f4 : Addr} {od4 an4 : Option Addr} {sl4 : Array (Option Value)} {oc4 kV4 dc4 pm4 cd4 ct4 : Value} {aW : Addr} {oW : Option Addr} {nW : Nat} {slW : Array (Option Value)} {w1 w2 w3 w4 : Tok} {t2 : Tok}
    (a1 : PySem.W.nsIn K mainGlobals "moved" = some (some (.ref f1))) (l1 : K.lookup f1 = some ⟨oc1, od1, .func (PySem.W.fnOf "moved" "moved" (defArgs s_moved) (defBody s_moved) (defScope s_moved) .none kV1 dc1 pm1 an1 cd1 ct1), sl1⟩) (k1 : PySem.W.codeIn K cd1 "moved" = true) (p1 : PySem.W.keepIn K (.ref f1) = true) (a2 : PySem.W.nsIn K mainGlobals "combined" = some (some (.ref f2))) (l2 : K.lookup f2 = some ⟨oc2, od2, .func (PySem.W.fnOf "combined" "combined" (defArgs s_combined) (defBody s_combined) (defScope s_combined) .none kV2 dc2 pm2 an2 cd2 ct2), sl2⟩) (k2 : PySem.W.codeIn K cd2 "combined" = true) (p2 : PySem.W.keepIn K (.ref f2) = true) (a3 : PySem.W.nsIn K mainGlobals "mask_of" = some (some (.ref f3))) (l3 : K.lookup f3 = some ⟨oc3, od3, .func (PySem.W.fnOf "mask_of" "mask_of" (defArgs s_mask_of) (defBody s_mask_of) (defScope s_mask_of) .none kV3 dc3 pm3 an3 cd3 ct3), sl3⟩) (k3 : PySem.W.codeIn K cd3 "mask_of" = true) (p3 : PySem.W.keepIn K (.ref f3) = true) (a4 : PySem.W.nsIn K mainGlobals "mask" = some (some (.ref f4))) (l4 : K.lookup f4 = some ⟨oc4, od4, .func (PySem.W.fnOf "mask" "mask" (defArgs s_mask) (defBody s_mask) (defScope s_mask) .none kV4 dc4 pm4 an4 cd4 ct4), sl4⟩) (k4 : PySem.W.codeIn K cd4 "mask" = true) (p4 : PySem.W.keepIn K (.ref f4) = true) (g_WIDTHS : PySem.W.nsIn K mainGlobals "WIDTHS" = some (some (.ref aW))) (l_WIDTHS : K.lookup aW = some ⟨.type "tuple", oW, .seq #[.int 8 w1, .int 16 w2, .int 32 w3, .int 64 w4] nW, slW⟩) (g_LAST_OP : PySem.W.nsIn K mainGlobals "LAST_OP" = some (some (.int 9 t2))) :
    ∃ fd : FuncData, (∀ (s : Shared) (us : List Value), us.length = (["a", "b", "op", "w"] : List Str).length → BindsTo s fd ⟨us, []⟩ ((["a", "b", "op", "w"] : List Str).zip us)) ∧ ∀ base : Heap, K.In base → base.Ns mainGlobals mg → FnOk P w K mg base CX0 3 fa fd ["a", "b", "op", "w"] sp_mask := by
  have c_WIDTHS : Cst mg "WIDTHS" (.ref aW) := ⟨_, PySem.W.mg_of X G g_WIDTHS, rfl⟩
  have hW : SqW K aW := sqW_of l_WIDTHS
  have c_LAST_OP : Cst mg "LAST_OP" (.int 9) := ⟨_, PySem.W.mg_of X G g_LAST_OP, ⟨_, rfl⟩⟩
  have R_moved : Raw K mg "moved" s_moved ["a", "b", "op", "w"] := raw_mk X G a1 l1 k1 p1 fun _ _ _ _ _ _ us hl => match us, hl with | [_, _, _, _], _ => rfl
  have R_combined : Raw K mg "combined" s_combined ["a", "b", "op", "w"] := raw_mk X G a2 l2 k2 p2 fun _ _ _ _ _ _ us hl => match us, hl with | [_, _, _, _], _ => rfl
  have R_mask_of : Raw K mg "mask_of" s_mask_of ["a", "b", "op", "w"] := raw_mk X G a3 l3 k3 p3 fun _ _ _ _ _ _ us hl => match us, hl with | [_, _, _, _], _ => rfl
  have R_mask : Raw K mg "mask" s_mask ["a", "b", "op", "w"] := raw_mk X G a4 l4 k4 p4 fun _ _ _ _ _ _ us hl => match us, hl with | [_, _, _, _], _ => rfl
  have F0 := R_mask
  have e := hfa.symm.trans (PySem.W.mg_of X G a4)
  cases e
  refine ⟨PySem.W.fnOf "mask" "mask" (defArgs s_mask) (defBody s_mask) (defScope s_mask) .none kV4 dc4 pm4 an4 cd4 ct4, fun s us hu => match us, hu with | [_, _, _, _], _ => .of_eq rfl, fun base kb nb => ?_⟩
  have d_moved : Def P w K mg base 1 "moved" ["a", "b", "op", "w"] sp_moved := ok_moved R_moved
  have d_combined : Def P w K mg base 1 "combined" ["a", "b", "op", "w"] sp_combined := ok_combined R_combined
  have d_mask_of : Def P w K mg base 2 "mask_of" ["a", "b", "op", "w"] sp_mask_of := ok_mask_of R_mask_of d_combined d_moved c_LAST_OP c_WIDTHS hW
  exact def_at (ok_mask R_mask d_mask_of) hfa l4

end Hr
open PySem PySem.W PyProof.Rows
set_option maxRecDepth 100000 in
set_option maxHeartbeats 0 in
theorem PySem.Challenge.cw_halfrows_s08_mask_holds : PySem.Challenge.rw_halfrows_s08_mask.Holds := by
  w_on; k_headS; (case hw => exact ⟨[.int 0, .int 0, .int 0, .int 0], by decide +kernel, by decide +kernel⟩)
  k_fillS
  refine L2.walk_specK (r := PySem.Challenge.rw_halfrows_s08_mask) (k := 3) (CX := L2.CX0) (ps := ["a", "b", "op", "w"]) (sp := fun K => Hr.sp_mask) (by decide +kernel) rfl rfl ⟨rfl, by decide, by decide⟩ (fun w h Y => PySem.W.kIn_of Y) ?F ?S (fun _ _ _ _ z => z)
  case F =>
    intro w mg fa h Y KX G hmg
    refine' Hr.all_mk KX G hmg ?a1 ?l1 ?k1 ?p1 ?a2 ?l2 ?k2 ?p2 ?a3 ?l3 ?k3 ?p3 ?a4 ?l4 ?k4 ?p4 ?g_WIDTHS ?l_WIDTHS ?g_LAST_OP
    (case a1 => k_is); (case l1 => k_is); (case k1 => k_is); (case p1 => k_is); (case a2 => k_is); (case l2 => k_is); (case k2 => k_is); (case p2 => k_is); (case a3 => k_is); (case l3 => k_is); (case k3 => k_is); (case p3 => k_is); (case a4 => k_is); (case l4 => k_is); (case k4 => k_is); (case p4 => k_is); (case g_WIDTHS => k_is); (case l_WIDTHS => k_is); (case g_LAST_OP => k_is)
  case S =>
    intro K H xs a hO hwi hask hx
    obtain ⟨a1, a2, a3, a4, u⟩ := a
    cases hx with
    | cons h1 hx => cases hx with
    | cons h2 hx => cases hx with
    | cons h3 hx => cases hx with
    | cons h4 hx =>
      cases hx
      obtain rfl := Hr.dw_int1 h1
      obtain rfl := Hr.dw_int1 h2
      obtain rfl := Hr.dw_int1 h3
      obtain rfl := Hr.dw_int1 h4
      have w0 : (Codec.inInt 0 18446744073709551615 a1 && (Codec.inInt 0 18446744073709551615 a2 && (Codec.inInt (-2147483648) 2147483647 a3 && (Codec.inInt (-2147483648) 2147483647 a4 && true)))) = true := hwi
      simp only [Bool.and_eq_true] at w0
      obtain ⟨b1, b2, b3, _⟩ := w0
      have b1 := Hr.in_int b1
      have b2 := Hr.in_int b2
      obtain ⟨n1, rfl⟩ := Int.eq_ofNat_of_zero_le b1.1
      obtain ⟨n2, rfl⟩ := Int.eq_ofNat_of_zero_le b2.1
      exact ⟨n1, n2, a3, a4, rfl, by omega, fun H' p hp => .lst (L2.SqL.of hp) (L2.dw_ints _)⟩
#print axioms PySem.Challenge.cw_halfrows_s08_mask_holds
