import PyProof.Rows.All
import Wide.All
import OpenK.AllK
import Wide.FinOn
import Open.SpecLaws
import KE.OsGo
import HandS.ForSpec
import HandS.Comp
import HandS.Iter
import HandS.Walk
import HandS.Wide
import HandS.WideBits
import HandS.TupLe
import PySem.Challenge.RW_halfrows_s09_test
set_option Elab.async false
set_option linter.all false
set_option maxRecDepth 100000
set_option maxHeartbeats 4000000
namespace Hr
/-! ### masks -/
theorem low_flip {w x : Nat} (hx : x < 2 ^ w) (i : Nat) : (2 ^ w - 1 - x).testBit i = (decide (i < w) && !x.testBit i) := by
  rw [show 2 ^ w - 1 - x = 2 ^ w - (x + 1) by omega]
  exact Nat.testBit_two_pow_sub_succ hx i
theorem within_iff {w x y : Nat} (hx : x < 2 ^ w) (hy : y < 2 ^ w) : x &&& y = y ↔ (2 ^ w - 1 - x) &&& y = 0 := by
  constructor
  · intro h
    apply Nat.eq_of_testBit_eq
    intro i
    have e := congrArg (fun z => z.testBit i) h
    simp only [Nat.testBit_and, low_flip hx, Nat.zero_testBit] at e ⊢
    cases h1 : x.testBit i <;> cases h2 : y.testBit i <;> simp_all
  · intro h
    apply Nat.eq_of_testBit_eq
    intro i
    have e := congrArg (fun z => z.testBit i) h
    simp only [Nat.testBit_and, low_flip hx, Nat.zero_testBit] at e ⊢
    cases h2 : y.testBit i
    · simp
    · have hi : i < w := by
        rcases Nat.lt_or_ge i w with c | c
        · exact c
        · rw [Nat.testBit_lt_two_pow (Nat.lt_of_lt_of_le hy (Nat.pow_le_pow_right (by decide) c))] at h2
          cases h2
      simp_all
theorem toNat_dec (p : Prop) [Decidable p] : (decide p).toNat = if p then 1 else 0 := by
  by_cases h : p <;> simp [h]
theorem test_is (n a b : Nat) :
    (decide (a % (1 * 2 ^ n) ||| b % (1 * 2 ^ n) = 0)).toNat + 2 * (decide (a % (1 * 2 ^ n) ||| b % (1 * 2 ^ n) = 1 * 2 ^ n - 1)).toNat + 4 * (decide (a % (1 * 2 ^ n) &&& b % (1 * 2 ^ n) = 0)).toNat +
      8 * (decide (a % (1 * 2 ^ n) &&& b % (1 * 2 ^ n) = b % (1 * 2 ^ n))).toNat = Sv03.maskTest n a b := by
  rw [Nat.one_mul]
  have hp : 0 < 2 ^ n := Nat.pow_pos (by decide)
  have k := within_iff (Nat.mod_lt a hp) (Nat.mod_lt b hp)
  unfold Sv03.maskTest
  dsimp only
  simp only [toNat_dec, ← k]
  generalize a % 2 ^ n = x
  generalize b % 2 ^ n = y
  repeat' split
  all_goals omega
end Hr

namespace Hr
open PySem PySem.Spec PyProof.Rows L2
/-! ### own words over the hand layer -/
/-- a module's constant -/
def Cst (mg : Str → Option Value) (x : Str) (v : V) : Prop := ∃ u, mg x = some u ∧ RelV v u
/-- a def of the text as it stands -/
def Raw (K : PySem.W.Frag) (mg : Str → Option Value) (x : Str) (st : Stmt) (ps : List Str) : Prop := ∃ f fd, Fun K x x st f fd ∧ Binds K fd ps [] ∧ mg x = some (.ref f)
/-- a def that keeps a promise -/
def Def (P : Program) (w : World) (K : PySem.W.Frag) (mg : Str → Option Value) (base : Heap) (k : Nat) (x : Str) (ps : List Str) (sp : Sp) : Prop :=
  ∃ f fd, FnOk P w K mg base CX0 k f fd ps sp ∧ Binds K fd ps [] ∧ PySem.W.keepIn K (.ref f) = true ∧ mg x = some (.ref f) ∧ ∃ oc od osl, K.lookup f = some ⟨oc, od, .func fd, osl⟩
theorem look {K : PySem.W.Frag} {x q : Str} {st : Stmt} {f : Addr} {fd : FuncData} (F : Fun K x q st f fd) : ∃ oc od osl, K.lookup f = some ⟨oc, od, .func fd, osl⟩ := by
  obtain ⟨oc, od, _, _, _, _, _, _, osl, _, lk, _⟩ := F.ex
  exact ⟨oc, od, osl, lk⟩
theorem pe_cst {X : Cx} {x : Str} {v : V} {pos : Pos} (c : Cst X.mg x v) (hg : Gl X x := by rfl) (hd : (x == ("__debug__" : Str)) = false := by decide) : PE X (.Name x pos) (tC v) := by
  obtain ⟨u, h, r⟩ := c
  exact pe_glob hg h r hd
theorem pe_def {X : Cx} {k : Nat} {x : Str} {ps : List Str} {sp : Sp} {p pos : Pos} {e : Expr} {es : List Expr} {t : TA} (D : Def X.prog X.w X.K X.mg X.base k x ps sp) (hr : Room k X.A) (ha : PA X (e :: es) t) (hg : Gl X x := by rfl)
    (hdb : (x == ("__debug__" : Str)) = false := by decide) (he : starEach (e :: es) X.env = (false, eval e X.env) :: starEach es X.env := by rfl) (hpl : (backTo pos (starEach es X.env)).any (·.1) = false := by rfl) :
    PE X (.Call (.Name x p) (e :: es) [] pos) (tCall sp [] E0 t) := by
  obtain ⟨f, fd, F, b, kp, m, _⟩ := D
  exact pe_call F hr hg m kp b .nil pass0 ha hdb he hpl
theorem raw_mk {K : PySem.W.Frag} {h : Heap} {mg : Str → Option Value} {x : Str} {st : Stmt} {ps : List Str} {f : Addr} {oc : Value} {od an : Option Addr} {osl : Array (Option Value)} {kV doc pm cdv ct : Value} (X : K.In h) (G : h.Ns mainGlobals mg)
    (a : PySem.W.nsIn K mainGlobals x = some (some (.ref f))) (l : K.lookup f = some ⟨oc, od, .func (PySem.W.fnOf x x (defArgs st) (defBody st) (defScope st) .none kV doc pm an cdv ct), osl⟩)
    (c : PySem.W.codeIn K cdv x = true) (k : PySem.W.keepIn K (.ref f) = true)
    (hb : ∀ (kV doc pm : Value) (an : Option Addr) (cdv ct : Value) (us : List Value), us.length = ps.length → bindArgs (PySem.W.fnOf x x (defArgs st) (defBody st) (defScope st) .none kV doc pm an cdv ct) ⟨us, []⟩ = pure (ps.zip us)) : Raw K mg x st ps := by
  have F := fun_mk (x := x) (qual := x) (st := st) l c k
  exact ⟨f, _, F, F.binds hb, PySem.W.mg_of X G a⟩
/-- the promise at the def's own function data -/
theorem def_at {P : Program} {w : World} {K : PySem.W.Frag} {mg : Str → Option Value} {base : Heap} {k : Nat} {x : Str} {ps : List Str} {sp : Sp} {f : Addr} {fd : FuncData} (D : Def P w K mg base k x ps sp) (hm : mg x = some (.ref f))
    {oc : Value} {od : Option Addr} {osl : Array (Option Value)} (l : K.lookup f = some ⟨oc, od, .func fd, osl⟩) : FnOk P w K mg base CX0 k f fd ps sp := by
  obtain ⟨f', fd', G, _, _, m, oc', od', osl', lk⟩ := D
  have e := hm.symm.trans m
  cases e
  have e2 := l.symm.trans lk
  cases e2
  exact G
/-- the table of widths -/
def SqW (K : PySem.W.Frag) (a : Addr) : Prop := ∀ H : Hp, SqT K H a [.int 8, .int 16, .int 32, .int 64]
theorem sqW_of {K : PySem.W.Frag} {a : Addr} {od : Option Addr} {n : Nat} {sl : Array (Option Value)} {t1 t2 t3 t4 : Tok} (l : K.lookup a = some ⟨.type "tuple", od, .seq #[.int 8 t1, .int 16 t2, .int 32 t3, .int 64 t4] n, sl⟩) : SqW K a := fun H =>
  .inr ⟨_, _, n, l, rfl, rfl, (by show 4 ≤ sizeLine; decide), .cons ⟨_, rfl⟩ (.cons ⟨_, rfl⟩ (.cons ⟨_, rfl⟩ (.cons ⟨_, rfl⟩ .nil)))⟩
theorem op_notInW {X : Cx} {a : Addr} (hW : SqW X.K a) : OpR X (compareOp .NotIn) (fun x y H Q => ∃ w : Int, x = .int w ∧ y = .ref a ∧ Q (.bl (!decide (w ∈ Sv03.widths))) H) := by
  intro pins s σ H x y v u Q I rx ry h
  obtain ⟨w, rfl, rfl, q⟩ := h
  refine op_notIn_seq pins s σ H _ _ v u Q I rx ry ⟨a, _, rfl, .inr (hW H), rfl, rfl, ?_⟩
  have e : inV (.int w) [.int 8, .int 16, .int 32, .int 64] = decide (w ∈ Sv03.widths) := by
    show ((8 : Int) == w || ((16 : Int) == w || ((32 : Int) == w || ((64 : Int) == w || false)))) = decide (w ∈ [8, 16, 32, 64])
    rw [Bool.eq_iff_iff]
    simp only [Bool.or_eq_true, beq_iff_eq, decide_eq_true_eq, List.mem_cons, List.not_mem_nil, Bool.false_eq_true, or_false]
    omega
  rw [e]
  exact q
theorem widths_nat {w : Int} (h : w ∈ Sv03.widths) : ∃ n : Nat, w = (n : Int) ∧ (n = 8 ∨ n = 16 ∨ n = 32 ∨ n = 64) := by
  simp [Sv03.widths] at h
  rcases h with h | h | h | h
  · exact ⟨8, h, by omega⟩
  · exact ⟨16, h, by omega⟩
  · exact ⟨32, h, by omega⟩
  · exact ⟨64, h, by omega⟩
/-! ### operators upon numbers that are not negative -/
section
variable {X : Cx}
theorem op_modNN : OpR X (binaryOp .Mod) (fun x y H Q => ∃ n m : Nat, x = .int (n : Int) ∧ y = .int (m : Int) ∧ 0 < m ∧ Q (.int ((n % m : Nat) : Int)) H) := by
  intro pins s σ H x y v u Q I rx ry h
  obtain ⟨n, m, rfl, rfl, c, q⟩ := h
  rw [Int.natCast_emod] at q
  exact op_mod pins s σ H _ _ v u Q I rx ry ⟨_, _, rfl, rfl, by omega, q⟩
theorem op_fdivNW : OpR X (binaryOp .FloorDiv) (fun x y H Q => ∃ n m b : Nat, x = .int (n : Int) ∧ y = .int (m : Int) ∧ (0 < m ∧ m < 2 ^ b ∧ 0 < b ∧ b ≤ 9000) ∧ Q (.int ((n / m : Nat) : Int)) H) := by
  intro pins s σ H x y v u Q I rx ry h
  obtain ⟨n, m, b, rfl, rfl, ⟨c1, c2, c3, c4⟩, q⟩ := h
  rw [Int.natCast_ediv] at q
  exact op_fdivW pins s σ H _ _ v u Q I rx ry ⟨_, _, rfl, rfl, wide_div (by omega) (by simpa using c2) c3 c4, q⟩
theorem op_mulNW : OpR X (binaryOp .Mult) (fun x y H Q => ∃ n m a b : Nat, x = .int (n : Int) ∧ y = .int (m : Int) ∧ (n < 2 ^ a ∧ m < 2 ^ b ∧ 0 < a ∧ 0 < b ∧ a + b ≤ 1000000) ∧ Q (.int ((n * m : Nat) : Int)) H) := by
  intro pins s σ H x y v u Q I rx ry h
  obtain ⟨n, m, a, b, rfl, rfl, ⟨c1, c2, c3, c4, c5⟩, q⟩ := h
  rw [Int.natCast_mul] at q
  exact op_mulW pins s σ H _ _ v u Q I rx ry ⟨_, _, rfl, rfl, wide_mul (by simpa using c1) (by simpa using c2) c3 c4 c5, q⟩
theorem cast_two_pow (k : Nat) : (((2 ^ k : Nat) : Nat) : Int) = 2 ^ k := by
  rw [Int.natCast_pow]; rfl
theorem op_shlNN : OpR X (binaryOp .LShift) (fun x y H Q => ∃ n k b : Nat, x = .int (n : Int) ∧ y = .int (k : Int) ∧ (n < 2 ^ b ∧ b + k ≤ 100000) ∧ Q (.int ((n * 2 ^ k : Nat) : Int)) H) := by
  intro pins s σ H x y v u Q I rx ry h
  obtain ⟨n, k, b, rfl, rfl, ⟨c1, c2⟩, q⟩ := h
  rw [Int.natCast_mul, cast_two_pow] at q
  exact op_shlN pins s σ H _ _ v u Q I rx ry ⟨_, k, rfl, rfl, shl_ok (n := b) (by simpa using c1) (by omega), q⟩
theorem op_shrNN : OpR X (binaryOp .RShift) (fun x y H Q => ∃ n k : Nat, x = .int (n : Int) ∧ y = .int (k : Int) ∧ Q (.int ((n / 2 ^ k : Nat) : Int)) H) := by
  intro pins s σ H x y v u Q I rx ry h
  obtain ⟨n, k, rfl, rfl, q⟩ := h
  rw [Int.natCast_ediv, cast_two_pow] at q
  exact op_shrN pins s σ H _ _ v u Q I rx ry ⟨_, k, rfl, rfl, q⟩
theorem bitAnd_NN (n m : Nat) : Builtin.bitAnd (n : Int) (m : Int) = ((n &&& m : Nat) : Int) := by
  unfold Builtin.bitAnd
  simp
theorem op_andNN : OpR X (binaryOp .BitAnd) (fun x y H Q => ∃ n m : Nat, x = .int (n : Int) ∧ y = .int (m : Int) ∧ Q (.int ((n &&& m : Nat) : Int)) H) := by
  intro pins s σ H x y v u Q I rx ry h
  obtain ⟨n, m, rfl, rfl, q⟩ := h
  rw [← bitAnd_NN] at q
  exact op_and pins s σ H _ _ v u Q I rx ry ⟨_, _, rfl, rfl, q⟩
theorem op_orNN : OpR X (binaryOp .BitOr) (fun x y H Q => ∃ n m : Nat, x = .int (n : Int) ∧ y = .int (m : Int) ∧ Q (.int ((n ||| m : Nat) : Int)) H) := by
  intro pins s σ H x y v u Q I rx ry h
  obtain ⟨n, m, rfl, rfl, q⟩ := h
  have e := bitOr_nn (Int.natCast_nonneg n) (Int.natCast_nonneg m)
  rw [Int.toNat_natCast, Int.toNat_natCast] at e
  rw [← e] at q
  exact op_or pins s σ H _ _ v u Q I rx ry ⟨_, _, rfl, rfl, q⟩
theorem op_ltNN : OpR X (compareOp .Lt) (fun x y H Q => ∃ n m : Nat, x = .int (n : Int) ∧ y = .int (m : Int) ∧ Q (.bl (decide (n < m))) H) := by
  intro pins s σ H x y v u Q I rx ry h
  obtain ⟨n, m, rfl, rfl, q⟩ := h
  exact op_lt pins s σ H _ _ v u Q I rx ry ⟨_, _, rfl, rfl, by simpa using q⟩
theorem op_leNN : OpR X (compareOp .LtE) (fun x y H Q => ∃ n m : Nat, x = .int (n : Int) ∧ y = .int (m : Int) ∧ Q (.bl (decide (n ≤ m))) H) := by
  intro pins s σ H x y v u Q I rx ry h
  obtain ⟨n, m, rfl, rfl, q⟩ := h
  exact op_le pins s σ H _ _ v u Q I rx ry ⟨_, _, rfl, rfl, by simpa using q⟩
theorem op_gtNN : OpR X (compareOp .Gt) (fun x y H Q => ∃ n m : Nat, x = .int (n : Int) ∧ y = .int (m : Int) ∧ Q (.bl (decide (m < n))) H) := by
  intro pins s σ H x y v u Q I rx ry h
  obtain ⟨n, m, rfl, rfl, q⟩ := h
  exact op_gt pins s σ H _ _ v u Q I rx ry ⟨_, _, rfl, rfl, by simpa using q⟩
theorem op_geNN : OpR X (compareOp .GtE) (fun x y H Q => ∃ n m : Nat, x = .int (n : Int) ∧ y = .int (m : Int) ∧ Q (.bl (decide (m ≤ n))) H) := by
  intro pins s σ H x y v u Q I rx ry h
  obtain ⟨n, m, rfl, rfl, q⟩ := h
  exact op_ge pins s σ H _ _ v u Q I rx ry ⟨_, _, rfl, rfl, by simpa using q⟩
theorem dec_int (n m : Int) : decide (V.int n = V.int m) = decide (n = m) := decide_eq_decide.mpr ⟨fun h => V.int.inj h, fun h => by rw [h]⟩
theorem dec_nat (n m : Nat) : decide (V.int (n : Int) = V.int (m : Int)) = decide (n = m) := by
  rw [dec_int]
  exact decide_eq_decide.mpr ⟨fun h => by omega, fun h => by omega⟩
theorem dec_bl (n m : Bool) : decide (V.bl n = V.bl m) = (n == m) := by cases n <;> cases m <;> decide
theorem op_eqNN : OpR X (compareOp .Eq) (fun x y H Q => ∃ n m : Nat, x = .int (n : Int) ∧ y = .int (m : Int) ∧ Q (.bl (decide (n = m))) H) := by
  intro pins s σ H x y v u Q I rx ry h
  obtain ⟨n, m, rfl, rfl, q⟩ := h
  exact op_eq pins s σ H _ _ v u Q I rx ry ⟨rfl, by rw [dec_nat]; exact q⟩
theorem op_neNN : OpR X (compareOp .NotEq) (fun x y H Q => ∃ n m : Nat, x = .int (n : Int) ∧ y = .int (m : Int) ∧ Q (.bl (!decide (n = m))) H) := by
  intro pins s σ H x y v u Q I rx ry h
  obtain ⟨n, m, rfl, rfl, q⟩ := h
  exact op_ne pins s σ H _ _ v u Q I rx ry ⟨rfl, by rw [dec_nat]; exact q⟩
theorem op_eqII : OpR X (compareOp .Eq) (fun x y H Q => ∃ n m : Int, x = .int n ∧ y = .int m ∧ Q (.bl (decide (n = m))) H) := by
  intro pins s σ H x y v u Q I rx ry h
  obtain ⟨n, m, rfl, rfl, q⟩ := h
  exact op_eq pins s σ H _ _ v u Q I rx ry ⟨rfl, by rw [dec_int]; exact q⟩
theorem op_eqBB : OpR X (compareOp .Eq) (fun x y H Q => ∃ n m : Bool, x = .bl n ∧ y = .bl m ∧ Q (.bl (n == m)) H) := by
  intro pins s σ H x y v u Q I rx ry h
  obtain ⟨n, m, rfl, rfl, q⟩ := h
  exact op_eq pins s σ H _ _ v u Q I rx ry ⟨rfl, by rw [dec_bl]; exact q⟩
theorem op_neBB : OpR X (compareOp .NotEq) (fun x y H Q => ∃ n m : Bool, x = .bl n ∧ y = .bl m ∧ Q (.bl (n != m)) H) := by
  intro pins s σ H x y v u Q I rx ry h
  obtain ⟨n, m, rfl, rfl, q⟩ := h
  exact op_ne pins s σ H _ _ v u Q I rx ry ⟨rfl, by rw [dec_bl]; exact q⟩
/-- int(flag) -/
theorem call_intB : CallR X (.type "int") (fun xs H Q => ∃ k : Bool, xs = [.bl k] ∧ Q (.int ((k.toNat : Nat) : Int)) H) := by
  intro pins s σ H xs us Q I r h
  obtain ⟨k, rfl, q⟩ := h
  refine call_int1 pins s σ H _ us Q I r (.inr ⟨k, rfl, ?_⟩)
  cases k <;> exact q
theorem call_absI : CallR X (.builtin "abs") (fun xs H Q => ∃ i : Int, xs = [.int i] ∧ Q (.int ((i.natAbs : Nat) : Int)) H) := by
  intro pins s σ H xs us Q I r h
  obtain ⟨i, rfl, q⟩ := h
  refine call_abs pins s σ H _ us Q I r ⟨i, rfl, ?_⟩
  have e : (if i < 0 then -i else i) = ((i.natAbs : Nat) : Int) := by split <;> omega
  rw [e]
  exact q
end
end Hr
namespace Hr
open PySem PySem.Spec PyProof.Rows L2
/-! ### the request -/
theorem dw_int1 {K : PySem.W.Frag} {H : Hp} {v : V} {i : Int} (h : Dw K H v (.int i)) : v = .int i := by
  cases h
  rfl
theorem dw_list1 {K : PySem.W.Frag} {H : Hp} {v : V} {ns : List Int} (h : Dw K H v (.list (ns.map PySem.W.WData.int))) : ∃ p, v = .ref p ∧ SqL K H p (ns.map V.int) := by
  generalize e : PySem.W.WData.list (ns.map PySem.W.WData.int) = d at h
  cases h <;> try cases e
  rename_i a xs hs ha
  exact ⟨a, rfl, by rw [← ints_dw ns xs ha]; exact hs⟩
theorem in_int {lo hi z : Int} (h : PySem.W.Codec.inInt lo hi z = true) : lo ≤ z ∧ z ≤ hi := PySem.W.Codec.inInt_iff.mp h
theorem in_list {m : Nat} {lo hi : Int} {ns : List Int} (h : (PySem.W.Codec.inLen 0 m ns && ns.all (PySem.W.Codec.inInt lo hi)) = true) : ns.length ≤ m ∧ ∀ z ∈ ns, lo ≤ z ∧ z ≤ hi := by
  rw [Bool.and_eq_true] at h
  refine ⟨(PySem.W.Codec.inNat_iff.mp h.1).2, fun z hz => in_int (List.all_eq_true.mp h.2 z hz)⟩
/-- a list of numbers that are not negative -/
theorem nats_of {ns : List Int} {hi : Int} (h : ∀ z ∈ ns, 0 ≤ z ∧ z ≤ hi) : ∃ l : List Nat, ns = l.map (fun n : Nat => (n : Int)) ∧ ∀ n ∈ l, (n : Int) ≤ hi := by
  refine ⟨ns.map Int.toNat, ?_, fun n hn => ?_⟩
  · rw [List.map_map]
    refine (List.map_id ns).symm.trans (List.map_congr_left fun z hz => ?_)
    have := h z hz
    show z = ((z.toNat : Nat) : Int)
    omega
  · obtain ⟨z, hz, rfl⟩ := List.mem_map.mp hn
    have := h z hz
    omega
end Hr

namespace Hr
open PySem PySem.Spec PyProof.Rows L2
def topS (i : Nat) : Stmt := PySem.Challenge.pw_halfrows_s09_test.main.body.getD i (.Pass ⟨0, 0, 0, 0⟩)
abbrev s_tested : Stmt := topS 2
theorem sc_tested : FnScope ["a", "b", "w", "full", "one", "other", "found"] ["a", "b", "w"] (defScope s_tested) := ⟨rfl, rfl, rfl, by decide +kernel, rfl, by decide +kernel, by decide +kernel⟩
def sp_tested : Sp := fun vs H Q _ => ∃ (a b : Nat) (w : Int), vs = [.int (a : Int), .int (b : Int), .int w] ∧ Q (.int (if w ∈ Sv03.widths then ((Sv03.maskTest w.toNat a b : Nat) : Int) else -1)) H
abbrev s_test : Stmt := topS 4
theorem sc_test : FnScope ["a", "b", "w"] ["a", "b", "w"] (defScope s_test) := ⟨rfl, rfl, rfl, by decide +kernel, rfl, by decide +kernel, by decide +kernel⟩
def sp_test : Sp := fun vs H Q _ => ∃ (a b : Nat) (w : Int), vs = [.int (a : Int), .int (b : Int), .int w] ∧ ∀ H' p, H' p = some (.lst ((PySv03.test a b w).map V.int)) → Q (.ref p) H'
section
variable {P : Program} {w : World} {K : PySem.W.Frag} {mg : Str → Option Value} {base : Heap} {aW : Addr}
theorem ok_tested (R : Raw K mg "tested" s_tested ["a", "b", "w"]) (c_WIDTHS : Cst mg "WIDTHS" (.ref aW)) (z_int : mg "int" = none) (hW : SqW K aW) : Def P w K mg base 1 "tested" ["a", "b", "w"] sp_tested := by
  obtain ⟨f, fd, F, b, m⟩ := R
  refine ⟨f, fd, F.ok sc_tested (fun vs H Q E h => ?_) (fun cdv A outer s H vs Q E hr h => ?_), b, F.kp, m, look F⟩
  · obtain ⟨a, b, w, rfl, q⟩ := h
    rfl
  · obtain ⟨a, b, w, rfl, q⟩ := h
    refine ⟨_, (pss_cons (ps_if (pt_cmpR (op_notInW hW) (pv 2) (pe_cst c_WIDTHS) (by rfl)) (pss_one (ps_ret (pe_un un_neg pe_int))) pss_nil)
      (pss_cons (ps_set (i := 3) sc_tested.nd rfl (Or.inl rfl) (pe_op L2.op_subN (pe_op op_shlNN pe_int (pv 2)) pe_int))
      (pss_cons (ps_set (i := 4) sc_tested.nd rfl (Or.inl rfl) (pe_op op_modNN (pv 0) (pe_op op_shlNN pe_int (pv 2))))
      (pss_cons (ps_set (i := 5) sc_tested.nd rfl (Or.inl rfl) (pe_op op_modNN (pv 1) (pe_op op_shlNN pe_int (pv 2))))
      (pss_cons (ps_set (i := 6) sc_tested.nd rfl (Or.inl rfl) (pe_op L2.op_addN (pe_callTy call_intB (by rfl) z_int (by decide +kernel) (pa_cons (pe_cmpR op_eqNN (pe_op op_orNN (pv 4) (pv 5)) pe_int (nomark _)) pa_nil)) (pe_op op_mulNW pe_int (pe_callTy call_intB (by rfl) z_int (by decide +kernel) (pa_cons (pe_cmpR op_eqNN (pe_op op_orNN (pv 4) (pv 5)) (pv 3) (nomark _)) pa_nil)))))
      (pss_one (ps_ret (pe_op L2.op_addN (pe_op L2.op_addN (pv 6) (pe_op op_mulNW pe_int (pe_callTy call_intB (by rfl) z_int (by decide +kernel) (pa_cons (pe_cmpR op_eqNN (pe_op op_andNN (pv 4) (pv 5)) pe_int (nomark _)) pa_nil)))) (pe_op op_mulNW pe_int (pe_callTy call_intB (by rfl) z_int (by decide +kernel) (pa_cons (pe_cmpR op_eqNN (pe_op op_andNN (pv 4) (pv 5)) (pv 5) (nomark _)) pa_nil))))))))))), ?_⟩
    refine ⟨_, rfl, w, rfl, rfl, _, rfl, ite2 (fun e => ?_) (fun e => ?_)⟩
    · have e' : ¬ w ∈ Sv03.widths := by simpa using e
      rw [if_neg e'] at q
      exact ⟨1, rfl, q⟩
    · have e' : w ∈ Sv03.widths := by simpa using e
      rw [if_pos e'] at q
      obtain ⟨n, rfl, hn⟩ := widths_nat e'
      rw [Int.toNat_natCast, ← test_is] at q
      have hp : 0 < 1 * 2 ^ n := by rw [Nat.one_mul]; exact Nat.pow_pos (by decide)
      refine ⟨_, rfl, 1, n, 1, rfl, rfl, ⟨by decide, by omega⟩, 1 * 2 ^ n, 1, rfl, rfl, hp, ?_⟩
      refine ⟨_, rfl, _, rfl, 1, n, 1, rfl, rfl, ⟨by decide, by omega⟩, a, 1 * 2 ^ n, rfl, rfl, hp, ?_⟩
      refine ⟨_, rfl, _, rfl, 1, n, 1, rfl, rfl, ⟨by decide, by omega⟩, b, 1 * 2 ^ n, rfl, rfl, hp, ?_⟩
      refine ⟨_, rfl, _, rfl, _, _, rfl, rfl, _, 0, rfl, rfl, _, rfl, ?_⟩
      refine ⟨_, rfl, _, rfl, _, _, rfl, rfl, _, rfl, _, _, rfl, rfl, _, rfl, 2, _, 2, 1, rfl, rfl, ⟨by decide, Bool.toNat_lt _, by decide, by decide, by decide⟩, _, _, rfl, rfl, ?_⟩
      refine ⟨_, rfl, _, rfl, _, rfl, _, _, rfl, rfl, _, 0, rfl, rfl, _, rfl, 4, _, 3, 1, rfl, rfl, ⟨by decide, Bool.toNat_lt _, by decide, by decide, by decide⟩, _, _, rfl, rfl, ?_⟩
      refine ⟨_, rfl, _, rfl, _, _, rfl, rfl, _, rfl, _, _, rfl, rfl, _, rfl, 8, _, 4, 1, rfl, rfl, ⟨by decide, Bool.toNat_lt _, by decide, by decide, by decide⟩, _, _, rfl, rfl, ?_⟩
      exact q
theorem ok_test (R : Raw K mg "test" s_test ["a", "b", "w"]) (d_tested : Def P w K mg base 1 "tested" ["a", "b", "w"] sp_tested) : Def P w K mg base 2 "test" ["a", "b", "w"] sp_test := by
  obtain ⟨f, fd, F, b, m⟩ := R
  refine ⟨f, fd, F.ok sc_test (fun vs H Q E h => ?_) (fun cdv A outer s H vs Q E hr h => ?_), b, F.kp, m, look F⟩
  · obtain ⟨a, b, w, rfl, q⟩ := h
    rfl
  · obtain ⟨a, b, w, rfl, q⟩ := h
    refine ⟨_, (pss_one (ps_ret (pe_lst (pa_cons (pe_def d_tested (hr.mono (by decide)) (pa_cons (pv 0) (pa_cons (pv 1) (pa_cons (pv 2) pa_nil)))) pa_nil)))), ?_⟩
    refine ⟨_, rfl, _, rfl, _, rfl, a, b, w, rfl, ?_⟩
    refine ⟨by show 1 ≤ sizeLine; decide, fun p hp => ?_⟩
    refine q _ p ?_
    rw [upd_same]
    have e : PySv03.test a b w = [if w ∈ Sv03.widths then ((Sv03.maskTest w.toNat a b : Nat) : Int) else -1] := by
      show Sv03Neutral.f [[8, (a : Int), (b : Int), w]] = _
      unfold Sv03Neutral.f
      show (match Sv03.spec (.test (a : Int).toNat (b : Int).toNat w) with | .vector l => l.map fun (x : Nat) => (x : Int) | .number z => [z] | .wrote z l => z :: (l.map fun (x : Nat) => (x : Int))) = _
      rw [Int.toNat_natCast, Int.toNat_natCast]
      unfold Sv03.spec
      dsimp only
      by_cases h : w ∈ Sv03.widths
      · rw [if_pos h, if_pos h]
      · rw [if_neg h, if_neg h]
    rw [e]
    rfl
end
theorem all_mk {P : Program} {w : World} {K : PySem.W.Frag} {h : Heap} {mg : Str → Option Value} {fa : Addr} (X : K.In h) (G : h.Ns mainGlobals mg) (hfa : mg "test" = some (.ref fa))
    {f1 : Addr} {od1 an1 : Option Addr} {sl1 : Array (Option Value)} {oc1 kV1 dc1 pm1 cd1 ct1 : Value} {f2 : Addr} {od2 an2 : Option Addr} {sl2 : Array (Option Value)} {oc2 kV2 dc2 pm2 cd2 ct2 : Value} {aW : Addr} {oW : Option Addr} {nW : Nat} {slW : Array (Option Value)} {w1 w2 w3 w4 : Tok}
    (a1 : PySem.W.nsIn K mainGlobals "tested" = some (some (.ref f1))) (l1 : K.lookup f1 = some ⟨oc1, od1, .func (PySem.W.fnOf "tested" "tested" (defArgs s_tested) (defBody s_tested) (defScope s_tested) .none kV1 dc1 pm1 an1 cd1 ct1), sl1⟩) (k1 : PySem.W.codeIn K cd1 "tested" = true) (p1 : PySem.W.keepIn K (.ref f1) = true) (a2 : PySem.W.nsIn K mainGlobals "test" = some (some (.ref f2))) (l2 : K.lookup f2 = some ⟨oc2, od2, .func (PySem.W.fnOf "test" "test" (defArgs s_test) (defBody s_test) (defScope s_test) .none kV2 dc2 pm2 an2 cd2 ct2), sl2⟩) (k2 : PySem.W.codeIn K cd2 "test" = true) (p2 : PySem.W.keepIn K (.ref f2) = true) (g_WIDTHS : PySem.W.nsIn K mainGlobals "WIDTHS" = some (some (.ref aW))) (l_WIDTHS : K.lookup aW = some ⟨.type "tuple", oW, .seq #[.int 8 w1, .int 16 w2, .int 32 w3, .int 64 w4] nW, slW⟩) (z_int : PySem.W.nsIn K mainGlobals "int" = some none) :
    ∃ fd : FuncData, (∀ (s : Shared) (us : List Value), us.length = (["a", "b", "w"] : List Str).length → BindsTo s fd ⟨us, []⟩ ((["a", "b", "w"] : List Str).zip us)) ∧ ∀ base : Heap, K.In base → base.Ns mainGlobals mg → FnOk P w K mg base CX0 2 fa fd ["a", "b", "w"] sp_test := by
  have c_WIDTHS : Cst mg "WIDTHS" (.ref aW) := ⟨_, PySem.W.mg_of X G g_WIDTHS, rfl⟩
  have hW : SqW K aW := sqW_of l_WIDTHS
  have y_int := PySem.W.mg_none_of X G z_int
  have R_tested : Raw K mg "tested" s_tested ["a", "b", "w"] := raw_mk X G a1 l1 k1 p1 fun _ _ _ _ _ _ us hl => match us, hl with | [_, _, _], _ => rfl
  have R_test : Raw K mg "test" s_test ["a", "b", "w"] := raw_mk X G a2 l2 k2 p2 fun _ _ _ _ _ _ us hl => match us, hl with | [_, _, _], _ => rfl
  have F0 := R_test
  have e := hfa.symm.trans (PySem.W.mg_of X G a2)
  cases e
  refine ⟨PySem.W.fnOf "test" "test" (defArgs s_test) (defBody s_test) (defScope s_test) .none kV2 dc2 pm2 an2 cd2 ct2, fun s us hu => match us, hu with | [_, _, _], _ => .of_eq rfl, fun base kb nb => ?_⟩
  have d_tested : Def P w K mg base 1 "tested" ["a", "b", "w"] sp_tested := ok_tested R_tested c_WIDTHS y_int hW
  exact def_at (ok_test R_test d_tested) hfa l2

end Hr
open PySem PySem.W PyProof.Rows
set_option maxRecDepth 100000 in
set_option maxHeartbeats 0 in
theorem PySem.Challenge.cw_halfrows_s09_test_holds : PySem.Challenge.rw_halfrows_s09_test.Holds := by
  w_on; k_headS; (case hw => exact ⟨[.int 0, .int 0, .int 0], by decide +kernel, by decide +kernel⟩)
  k_fillS
  refine L2.walk_specK (r := PySem.Challenge.rw_halfrows_s09_test) (k := 2) (CX := L2.CX0) (ps := ["a", "b", "w"]) (sp := fun K => Hr.sp_test) (by decide +kernel) rfl rfl ⟨rfl, by decide, by decide⟩ (fun w h Y => PySem.W.kIn_of Y) ?F ?S (fun _ _ _ _ z => z)
  case F =>
    intro w mg fa h Y KX G hmg
    refine' Hr.all_mk KX G hmg ?a1 ?l1 ?k1 ?p1 ?a2 ?l2 ?k2 ?p2 ?g_WIDTHS ?l_WIDTHS ?z_int
    (case a1 => k_is); (case l1 => k_is); (case k1 => k_is); (case p1 => k_is); (case a2 => k_is); (case l2 => k_is); (case k2 => k_is); (case p2 => k_is); (case g_WIDTHS => k_is); (case l_WIDTHS => k_is); (case z_int => k_is)
  case S =>
    intro K H xs a hO hwi hask hx
    obtain ⟨a1, a2, a3, u⟩ := a
    cases hx with
    | cons h1 hx => cases hx with
    | cons h2 hx => cases hx with
    | cons h3 hx =>
      cases hx
      obtain rfl := Hr.dw_int1 h1
      obtain rfl := Hr.dw_int1 h2
      obtain rfl := Hr.dw_int1 h3
      have w0 : (Codec.inInt 0 18446744073709551615 a1 && (Codec.inInt 0 18446744073709551615 a2 && (Codec.inInt (-2147483648) 2147483647 a3 && true))) = true := hwi
      simp only [Bool.and_eq_true] at w0
      obtain ⟨b1, b2, b3, _⟩ := w0
      have b1 := Hr.in_int b1
      have b2 := Hr.in_int b2
      obtain ⟨n1, rfl⟩ := Int.eq_ofNat_of_zero_le b1.1
      obtain ⟨n2, rfl⟩ := Int.eq_ofNat_of_zero_le b2.1
      exact ⟨n1, n2, a3, rfl, fun H' p hp => .lst (L2.SqL.of hp) (L2.dw_ints _)⟩
#print axioms PySem.Challenge.cw_halfrows_s09_test_holds
