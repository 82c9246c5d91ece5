/- The typed layer: what each kind of operation's run comes to. -/
import Derived.Test.YtcafckgflpmfgaaDoorTwCtl
namespace Go.Tw
open Go Go.RowKit

section pure
variable {P : Program} {ρ : Operand → Value} {dst : Option Tmp} {ty : TypeId} {pos : String} {af : Array Edge} {gd : Option (Nat × Bool)}

theorem r_move {x : Operand} {v : Value} (hx : ρ x = v) (w : World) : (execOp ρ ⟨dst, .move x, ty, pos, af, gd⟩).run P w = .ok (.value v) w := by
  subst hx; simp [execOp, go_sem]
theorem r_assign {x : Operand} {v : Value} (hx : ρ x = v) (w : World) : (execOp ρ ⟨dst, .assign x, ty, pos, af, gd⟩).run P w = .ok (.value v) w := by
  subst hx; simp [execOp, go_sem]
theorem r_pick1 {c a b : Operand} {v : Value} {t : Bool} (hc : ρ c = .bool t) (ht : t = true) (hx : ρ a = v) (w : World) : (execOp ρ ⟨dst, .pick c a b, ty, pos, af, gd⟩).run P w = .ok (.value v) w := by
  subst hx ht; simp [execOp, go_sem, asBool, hc]
theorem r_pick0 {c a b : Operand} {v : Value} {t : Bool} (hc : ρ c = .bool t) (ht : t = false) (hx : ρ b = v) (w : World) : (execOp ρ ⟨dst, .pick c a b, ty, pos, af, gd⟩).run P w = .ok (.value v) w := by
  subst hx ht; simp [execOp, go_sem, asBool, hc]

theorem r_extract {x : Operand} {i : Nat} {vs : Array Value} {v : Value} (hx : ρ x = .tuple vs) (hv : vs[i]? = some v) (w : World) : (execOp ρ ⟨dst, .extract x i, ty, pos, af, gd⟩).run P w = .ok (.value v) w := by
  simp [execOp, go_sem, Instr.extract, hx, hv]

theorem r_arith {op : BinOp} {x y : Operand} {xt yt : TypeId} {k : IntKind} {a b r : Int} (hx : ρ x = .int k a) (hy : ρ y = .int k b)
    (hr : (op = .add ∧ r = k.wrap (a + b)) ∨ (op = .sub ∧ r = k.wrap (a - b)) ∨ (op = .mul ∧ r = k.wrap (a * b))) (w : World) :
    (execOp ρ ⟨dst, .binOp op xt x y yt, ty, pos, af, gd⟩).run P w = .ok (.value (.int k r)) w := by
  rcases hr with ⟨rfl, rfl⟩ | ⟨rfl, rfl⟩ | ⟨rfl, rfl⟩ <;> simp [execOp, go_sem, hx, hy, eqGuard, binOp, Op.intArith]
theorem r_add {x y : Operand} {xt yt : TypeId} {k : IntKind} {a b : Int} (hx : ρ x = .int k a) (hy : ρ y = .int k b) (w : World) :
    (execOp ρ ⟨dst, .binOp .add xt x y yt, ty, pos, af, gd⟩).run P w = .ok (.value (.int k (k.wrap (a + b)))) w := r_arith hx hy (.inl ⟨rfl, rfl⟩) w
theorem r_sub {x y : Operand} {xt yt : TypeId} {k : IntKind} {a b : Int} (hx : ρ x = .int k a) (hy : ρ y = .int k b) (w : World) :
    (execOp ρ ⟨dst, .binOp .sub xt x y yt, ty, pos, af, gd⟩).run P w = .ok (.value (.int k (k.wrap (a - b)))) w := r_arith hx hy (.inr (.inl ⟨rfl, rfl⟩)) w
theorem r_mul {x y : Operand} {xt yt : TypeId} {k : IntKind} {a b : Int} (hx : ρ x = .int k a) (hy : ρ y = .int k b) (w : World) :
    (execOp ρ ⟨dst, .binOp .mul xt x y yt, ty, pos, af, gd⟩).run P w = .ok (.value (.int k (k.wrap (a * b)))) w := r_arith hx hy (.inr (.inr ⟨rfl, rfl⟩)) w
theorem r_quo {x y : Operand} {xt yt : TypeId} {k : IntKind} {a b : Int} (hx : ρ x = .int k a) (hy : ρ y = .int k b) (hb : b ≠ 0) (w : World) :
    (execOp ρ ⟨dst, .binOp .quo xt x y yt, ty, pos, af, gd⟩).run P w = .ok (.value (.int k (k.wrap (a.tdiv b)))) w := by
  simp [execOp, go_sem, hx, hy, eqGuard, binOp, Op.intDiv, hb]
theorem r_rem {x y : Operand} {xt yt : TypeId} {k : IntKind} {a b : Int} (hx : ρ x = .int k a) (hy : ρ y = .int k b) (hb : b ≠ 0) (w : World) :
    (execOp ρ ⟨dst, .binOp .rem xt x y yt, ty, pos, af, gd⟩).run P w = .ok (.value (.int k (a.tmod b))) w := by
  simp [execOp, go_sem, hx, hy, eqGuard, binOp, Op.intDiv, hb]

/-- & | ^ on numbers of a kind -/
def bAnd (k : IntKind) (a b : Int) : Int := k.wrap (BitVec.ofInt k.bits a &&& BitVec.ofInt k.bits b).toNat
def bOr (k : IntKind) (a b : Int) : Int := k.wrap (BitVec.ofInt k.bits a ||| BitVec.ofInt k.bits b).toNat
def bXor (k : IntKind) (a b : Int) : Int := k.wrap (BitVec.ofInt k.bits a ^^^ BitVec.ofInt k.bits b).toNat
theorem r_and {x y : Operand} {xt yt : TypeId} {k : IntKind} {a b : Int} (hx : ρ x = .int k a) (hy : ρ y = .int k b) (w : World) :
    (execOp ρ ⟨dst, .binOp .and xt x y yt, ty, pos, af, gd⟩).run P w = .ok (.value (.int k (bAnd k a b))) w := by
  simp [execOp, go_sem, hx, hy, eqGuard, binOp, Op.intBits, bAnd]
theorem r_or {x y : Operand} {xt yt : TypeId} {k : IntKind} {a b : Int} (hx : ρ x = .int k a) (hy : ρ y = .int k b) (w : World) :
    (execOp ρ ⟨dst, .binOp .or xt x y yt, ty, pos, af, gd⟩).run P w = .ok (.value (.int k (bOr k a b))) w := by
  simp [execOp, go_sem, hx, hy, eqGuard, binOp, Op.intBits, bOr]
theorem r_xor {x y : Operand} {xt yt : TypeId} {k : IntKind} {a b : Int} (hx : ρ x = .int k a) (hy : ρ y = .int k b) (w : World) :
    (execOp ρ ⟨dst, .binOp .xor xt x y yt, ty, pos, af, gd⟩).run P w = .ok (.value (.int k (bXor k a b))) w := by
  simp [execOp, go_sem, hx, hy, eqGuard, binOp, Op.intBits, bXor]
def sShl (k : IntKind) (a b : Int) : Int := k.wrap (a * 2 ^ (min b.toNat k.bits))
def sShr (k : IntKind) (a b : Int) : Int := a.fdiv (2 ^ (min b.toNat k.bits))
theorem r_shl {x y : Operand} {xt yt : TypeId} {k ky : IntKind} {a b : Int} (hx : ρ x = .int k a) (hy : ρ y = .int ky b) (hb : 0 ≤ b) (w : World) :
    (execOp ρ ⟨dst, .binOp .shl xt x y yt, ty, pos, af, gd⟩).run P w = .ok (.value (.int k (sShl k a b))) w := by
  have : ¬ b < 0 := by omega
  simp [execOp, go_sem, hx, hy, eqGuard, binOp, Op.shift, sShl, this]
theorem r_shr {x y : Operand} {xt yt : TypeId} {k ky : IntKind} {a b : Int} (hx : ρ x = .int k a) (hy : ρ y = .int ky b) (hb : 0 ≤ b) (w : World) :
    (execOp ρ ⟨dst, .binOp .shr xt x y yt, ty, pos, af, gd⟩).run P w = .ok (.value (.int k (sShr k a b))) w := by
  have : ¬ b < 0 := by omega
  simp [execOp, go_sem, hx, hy, eqGuard, binOp, Op.shift, sShr, this]

theorem int_beq (a b : Int) : (a == b) = decide (a = b) := by
  by_cases h : a = b <;> simp [h]
theorem e_bool' {t : TypeId} {a b : Bool} (d : Nat) (ht : P.underlying t = some .bool) (w : World) : (Op.equalIn (d + 1) t (.bool a) (.bool b)).run P w = .ok (a == b) w := by
  simp [Op.equalIn, run_underlying ht]
theorem e_nilP' {t el : TypeId} {a : Option Addr} (d : Nat) (ht : P.underlying t = some (.pointer el)) (w : World) : (Op.equalIn (d + 1) t (.pointer a) (.pointer none)).run P w = .ok a.isNone w := by
  cases a <;> simp [Op.equalIn, run_underlying ht]
theorem e_nilS' {t el : TypeId} {a : Option Addr} {l c : Nat} (d : Nat) (ht : P.underlying t = some (.slice el)) (w : World) : (Op.equalIn (d + 1) t (.slice a l c) (.slice none 0 0)).run P w = .ok a.isNone w := by
  cases a <;> simp [Op.equalIn, run_underlying ht]
theorem e_nilI0' {t : TypeId} {ms : Array (String × TypeId)} (d : Nat) (ht : P.underlying t = some (.interface ms)) (w : World) : (Op.equalIn (d + 1) t .nilIface .nilIface).run P w = .ok true w := by
  simp [Op.equalIn, run_underlying ht]
theorem e_nilI1' {t u : TypeId} {v : Value} {ms : Array (String × TypeId)} (d : Nat) (ht : P.underlying t = some (.interface ms)) (w : World) : (Op.equalIn (d + 1) t (.iface u v) .nilIface).run P w = .ok false w := by
  simp [Op.equalIn, run_underlying ht]
theorem e_bool {t : TypeId} {a b : Bool} (ht : P.underlying t = some .bool) (w : World) : (Op.equalIn Op.maxDepth t (.bool a) (.bool b)).run P w = .ok (a == b) w := e_bool' 9999 ht w
theorem e_nilP {t el : TypeId} {a : Option Addr} (ht : P.underlying t = some (.pointer el)) (w : World) : (Op.equalIn Op.maxDepth t (.pointer a) (.pointer none)).run P w = .ok a.isNone w := e_nilP' 9999 ht w
theorem e_nilS {t el : TypeId} {a : Option Addr} {l c : Nat} (ht : P.underlying t = some (.slice el)) (w : World) : (Op.equalIn Op.maxDepth t (.slice a l c) (.slice none 0 0)).run P w = .ok a.isNone w := e_nilS' 9999 ht w
theorem e_nilI0 {t : TypeId} {ms : Array (String × TypeId)} (ht : P.underlying t = some (.interface ms)) (w : World) : (Op.equalIn Op.maxDepth t .nilIface .nilIface).run P w = .ok true w := e_nilI0' 9999 ht w
theorem e_nilI1 {t u : TypeId} {v : Value} {ms : Array (String × TypeId)} (ht : P.underlying t = some (.interface ms)) (w : World) : (Op.equalIn Op.maxDepth t (.iface u v) .nilIface).run P w = .ok false w := e_nilI1' 9999 ht w
theorem r_lss {x y : Operand} {xt yt : TypeId} {k : IntKind} {a b : Int} (hx : ρ x = .int k a) (hy : ρ y = .int k b) (w : World) :
    (execOp ρ ⟨dst, .binOp .lss xt x y yt, ty, pos, af, gd⟩).run P w = .ok (.value (.bool (decide (a < b)))) w := by
  simp [execOp, go_sem, hx, hy, eqGuard, binOp, Op.intCmp]
theorem r_leq {x y : Operand} {xt yt : TypeId} {k : IntKind} {a b : Int} (hx : ρ x = .int k a) (hy : ρ y = .int k b) (w : World) :
    (execOp ρ ⟨dst, .binOp .leq xt x y yt, ty, pos, af, gd⟩).run P w = .ok (.value (.bool (decide (a ≤ b)))) w := by
  simp [execOp, go_sem, hx, hy, eqGuard, binOp, Op.intCmp]
theorem r_gtr {x y : Operand} {xt yt : TypeId} {k : IntKind} {a b : Int} (hx : ρ x = .int k a) (hy : ρ y = .int k b) (w : World) :
    (execOp ρ ⟨dst, .binOp .gtr xt x y yt, ty, pos, af, gd⟩).run P w = .ok (.value (.bool (decide (b < a)))) w := by
  simp [execOp, go_sem, hx, hy, eqGuard, binOp, Op.intCmp]
theorem r_geq {x y : Operand} {xt yt : TypeId} {k : IntKind} {a b : Int} (hx : ρ x = .int k a) (hy : ρ y = .int k b) (w : World) :
    (execOp ρ ⟨dst, .binOp .geq xt x y yt, ty, pos, af, gd⟩).run P w = .ok (.value (.bool (decide (b ≤ a)))) w := by
  simp [execOp, go_sem, hx, hy, eqGuard, binOp, Op.intCmp]
theorem r_eql {x y : Operand} {xt yt : TypeId} {k : IntKind} {a b : Int} (hx : ρ x = .int k a) (hy : ρ y = .int k b) (w : World) :
    (execOp ρ ⟨dst, .binOp .eql xt x y yt, ty, pos, af, gd⟩).run P w = .ok (.value (.bool (decide (a = b)))) w := by
  simp [execOp, go_sem, hx, hy, eqGuard, binOp, Op.intCmp, int_beq]
theorem r_neq {x y : Operand} {xt yt : TypeId} {k : IntKind} {a b : Int} (hx : ρ x = .int k a) (hy : ρ y = .int k b) (w : World) :
    (execOp ρ ⟨dst, .binOp .neq xt x y yt, ty, pos, af, gd⟩).run P w = .ok (.value (.bool (!decide (a = b)))) w := by
  simp [execOp, go_sem, hx, hy, eqGuard, binOp, Op.intCmp, bne, int_beq]
theorem r_eqlB {x y : Operand} {xt yt : TypeId} {a b : Bool} (ht : P.underlying xt = some .bool) (hx : ρ x = .bool a) (hy : ρ y = .bool b) (w : World) :
    (execOp ρ ⟨dst, .binOp .eql xt x y yt, ty, pos, af, gd⟩).run P w = .ok (.value (.bool (a == b))) w := by
  simp [execOp, go_sem, hx, hy, eqGuard, binOp, Op.equal, e_bool ht]
theorem r_neqB {x y : Operand} {xt yt : TypeId} {a b : Bool} (ht : P.underlying xt = some .bool) (hx : ρ x = .bool a) (hy : ρ y = .bool b) (w : World) :
    (execOp ρ ⟨dst, .binOp .neq xt x y yt, ty, pos, af, gd⟩).run P w = .ok (.value (.bool (a != b))) w := by
  simp [execOp, go_sem, hx, hy, eqGuard, binOp, Op.equal, e_bool ht, bne]

/-- is a pointer, a slice, a function, an interface's value nil? -/
def isNil : Value → Bool
  | .pointer none | .slice none _ _ | .nilFunc | .nilIface => true
  | _ => false
theorem r_nilP {x y : Operand} {xt yt el : TypeId} {a : Option Addr} (ht : P.underlying xt = some (.pointer el)) (hx : ρ x = .pointer a) (hy : ρ y = .pointer none) (w : World) :
    (execOp ρ ⟨dst, .binOp .eql xt x y yt, ty, pos, af, gd⟩).run P w = .ok (.value (.bool a.isNone)) w := by
  simp [execOp, go_sem, hx, hy, eqGuard, binOp, Op.equal, e_nilP ht]
theorem r_notNilP {x y : Operand} {xt yt el : TypeId} {a : Option Addr} (ht : P.underlying xt = some (.pointer el)) (hx : ρ x = .pointer a) (hy : ρ y = .pointer none) (w : World) :
    (execOp ρ ⟨dst, .binOp .neq xt x y yt, ty, pos, af, gd⟩).run P w = .ok (.value (.bool (!a.isNone))) w := by
  simp [execOp, go_sem, hx, hy, eqGuard, binOp, Op.equal, e_nilP ht]
theorem r_nilS {x y : Operand} {xt yt el : TypeId} {a : Option Addr} {l c : Nat} (ht : P.underlying xt = some (.slice el)) (hx : ρ x = .slice a l c) (hy : ρ y = .slice none 0 0) (w : World) :
    (execOp ρ ⟨dst, .binOp .eql xt x y yt, ty, pos, af, gd⟩).run P w = .ok (.value (.bool a.isNone)) w := by
  simp [execOp, go_sem, hx, hy, eqGuard, binOp, Op.equal, e_nilS ht]
theorem r_notNilS {x y : Operand} {xt yt el : TypeId} {a : Option Addr} {l c : Nat} (ht : P.underlying xt = some (.slice el)) (hx : ρ x = .slice a l c) (hy : ρ y = .slice none 0 0) (w : World) :
    (execOp ρ ⟨dst, .binOp .neq xt x y yt, ty, pos, af, gd⟩).run P w = .ok (.value (.bool (!a.isNone))) w := by
  simp [execOp, go_sem, hx, hy, eqGuard, binOp, Op.equal, e_nilS ht]

/-- an interface's value: nil, or of a type -/
def isIface : Value → Bool
  | .nilIface | .iface _ _ => true
  | _ => false
theorem r_nilI {x : Operand} {xt yt : TypeId} {ms : Array (String × TypeId)} {v : Value} (ht : P.underlying xt = some (.interface ms)) (hx : ρ x = v) (hi : isIface v = true) (hc : ρ (.const .nilIface) = .nilIface) (w : World) :
    (execOp ρ ⟨dst, .binOp .eql xt x (.const .nilIface) yt, ty, pos, af, gd⟩).run P w = .ok (.value (.bool (isNil v))) w := by
  cases v <;> simp [isIface] at hi <;> simp [execOp, go_sem, hx, hc, eqGuard, binOp, Op.equal, e_nilI0 ht, e_nilI1 ht, isNil]
theorem r_notNilI {x : Operand} {xt yt : TypeId} {ms : Array (String × TypeId)} {v : Value} (ht : P.underlying xt = some (.interface ms)) (hx : ρ x = v) (hi : isIface v = true) (hc : ρ (.const .nilIface) = .nilIface) (w : World) :
    (execOp ρ ⟨dst, .binOp .neq xt x (.const .nilIface) yt, ty, pos, af, gd⟩).run P w = .ok (.value (.bool (!isNil v))) w := by
  cases v <;> simp [isIface] at hi <;> simp [execOp, go_sem, hx, hc, eqGuard, binOp, Op.equal, e_nilI0 ht, e_nilI1 ht, isNil]

theorem r_not {x : Operand} {xt : TypeId} {a : Bool} (hx : ρ x = .bool a) (w : World) : (execOp ρ ⟨dst, .unOp .not xt x, ty, pos, af, gd⟩).run P w = .ok (.value (.bool (!a))) w := by
  simp [execOp, go_sem, Op.unary, hx]
theorem r_neg {x : Operand} {xt : TypeId} {k : IntKind} {a : Int} (hx : ρ x = .int k a) (w : World) : (execOp ρ ⟨dst, .unOp .neg xt x, ty, pos, af, gd⟩).run P w = .ok (.value (.int k (k.wrap (0 - a)))) w := by
  simp [execOp, go_sem, Op.unary, hx, Op.intArith]
theorem r_conv {x : Operand} {st dt : TypeId} {sk k : IntKind} {a : Int} {sd : TypeDesc} (hs : P.underlying st = some sd) (ht : P.underlying dt = some (.int k)) (hx : ρ x = .int sk a) (w : World) :
    (execOp ρ ⟨dst, .convert st dt x, ty, pos, af, gd⟩).run P w = .ok (.value (.int k (k.wrap a))) w := by
  cases sd <;> simp [execOp, go_sem, convert, run_underlying hs, run_underlying ht, hx, Conv.intToInt]

theorem r_len {x : Operand} {t : TypeId} {el : TypeId} {a : Option Addr} {l c : Nat} (ht : P.underlying t = some (.slice el)) (hx : ρ x = .slice a l c) (w : World) :
    (execOp ρ ⟨dst, .call ⟨.builtin .len, #[x], #[t]⟩, ty, pos, af, gd⟩).run P w = .ok (.value (.int .i64 l)) w := by
  simp [go_sem, Builtin.len_, hx, run_underlying ht, goInt]
theorem r_cap {x : Operand} {t : TypeId} {el : TypeId} {a : Option Addr} {l c : Nat} (ht : P.underlying t = some (.slice el)) (hx : ρ x = .slice a l c) (w : World) :
    (execOp ρ ⟨dst, .call ⟨.builtin .cap, #[x], #[t]⟩, ty, pos, af, gd⟩).run P w = .ok (.value (.int .i64 c)) w := by
  simp [go_sem, Builtin.cap_, hx, run_underlying ht, goInt]
theorem r_lenStr {x : Operand} {t : TypeId} {s : ByteArray} (ht : P.underlying t = some .string) (hx : ρ x = .string s) (w : World) :
    (execOp ρ ⟨dst, .call ⟨.builtin .len, #[x], #[t]⟩, ty, pos, af, gd⟩).run P w = .ok (.value (.int .i64 s.size)) w := by
  simp [go_sem, Builtin.len_, hx, run_underlying ht, goInt]
theorem r_min {x y : Operand} {t : Array TypeId} {k k' : IntKind} {a b : Int} (hx : ρ x = .int k a) (hy : ρ y = .int k' b) (w : World) :
    (execOp ρ ⟨dst, .call ⟨.builtin .min, #[x, y], t⟩, ty, pos, af, gd⟩).run P w = .ok (.value (.int k (min a b))) w := by
  have : (if b < a then b else a) = min a b := by rw [Int.min_def]; split <;> split <;> omega
  simp [go_sem, Builtin.min_, Builtin.min2, hx, hy, this]
theorem r_max {x y : Operand} {t : Array TypeId} {k k' : IntKind} {a b : Int} (hx : ρ x = .int k a) (hy : ρ y = .int k' b) (w : World) :
    (execOp ρ ⟨dst, .call ⟨.builtin .max, #[x, y], t⟩, ty, pos, af, gd⟩).run P w = .ok (.value (.int k (max a b))) w := by
  have : (if a < b then b else a) = max a b := by rw [Int.max_def]; split <;> split <;> omega
  simp [go_sem, Builtin.max_, Builtin.max2, hx, hy, this]

theorem r_nilCheck {x : Operand} {a : Option Addr} {p : Addr} (hx : ρ x = .pointer a) (hp : a = some p) (w : World) : (execOp ρ ⟨dst, .nilCheck x, ty, pos, af, gd⟩).run P w = .ok (.value (.pointer (some p))) w := by
  simp [execOp, go_sem, hx, hp]
theorem r_fieldAddr {s : TypeId} {x : Operand} {i : Nat} {fs : Array Field} {off : Nat} {ft : TypeId} {p : Addr} {k : Nat} (hs : P.underlying s = some (.struct fs)) (hk : ∀ w, (sizeOf ft).run P w = .ok k w) (hf : (fs[i]?).map (fun f => (f.offset, f.type)) = some (off, ft)) (hx : ρ x = .pointer (some p)) (h0 : Nat.beq k 0 = false) (w : World) :
    (execOp ρ ⟨dst, .fieldAddr s x i, ty, pos, af, gd⟩).run P w = .ok (.value (.pointer (some (p.add off)))) w := by
  have h1 : ¬ k = 0 := fun e => by subst e; cases h0
  cases hq : fs[i]? with
  | none => rw [hq] at hf; cases hf
  | some f =>
    rw [hq] at hf
    simp only [Option.map_some, Option.some.injEq, Prod.mk.injEq] at hf
    obtain ⟨rfl, rfl⟩ := hf
    simp [execOp, go_sem, Instr.fieldAt, run_underlying hs, hq, hx, Instr.sureAddr, fieldPlace, hk, h1]
theorem r_indexAddr {t : TypeId} {x y : Operand} {el : TypeId} {a : Option Addr} {l c : Nat} {p : Addr} {k : IntKind} {i : Int} {sz : Nat} (ht : P.underlying t = some (.slice el)) (hz : ∀ w, (sizeOf el).run P w = .ok sz w)
    (hx : ρ x = .slice a l c) (hy : ρ y = .int k i) (ha : a = some p) (h0 : 0 ≤ i) (h1 : i < l) (w : World) :
    (execOp ρ ⟨dst, .indexAddr t x y, ty, pos, af, gd⟩).run P w = .ok (.value (.pointer (some (p.add (i.toNat * sz))))) w := by
  subst ha
  simp [execOp, go_sem, Instr.indexAt, asIntOf, run_underlying ht, hx, hy, h0, h1, hz]
theorem r_makeFunc {fn : Fn} {fi ca : Array Operand} {fi' ca' : List Value} (h1 : fi.toList.map ρ = fi') (h2 : ca.toList.map ρ = ca') (w : World) : (execOp ρ ⟨dst, .makeFunc fn fi ca, ty, pos, af, gd⟩).run P w = .ok (.value (.func fn fi'.toArray ca'.toArray)) w := by
  have e1 : fi.map ρ = fi'.toArray := by apply Array.toList_inj.1; simpa using h1
  have e2 : ca.map ρ = ca'.toArray := by apply Array.toList_inj.1; simpa using h2
  simp [execOp, go_sem, Instr.makeFunc, e1, e2]
theorem r_iface {t : TypeId} {x : Operand} {v : Value} {d : TypeDesc} (ht : P.underlying t = some d) (hd : (match d with | .interface _ => false | _ => true) = true) (hx : ρ x = v) (w : World) :
    (execOp ρ ⟨dst, .makeInterface t x, ty, pos, af, gd⟩).run P w = .ok (.value (.iface t v)) w := by
  cases d <;> simp at hd <;> simp [execOp, go_sem, Instr.makeInterface, run_underlying ht, hx]

/-- s[lo:hi] of a slice -/
def sliceA (a : Option Addr) (m l sz : Nat) : Option Addr := if m = l then a else a.map (·.add (l * sz))
theorem run_sliceBound {x : Value} {k : IntKind} {i : Int} {y : Nat} {code : BoundsCode} (hx : x = .int k i) (h0 : 0 ≤ i) (h1 : i ≤ y) (w : World) : (Instr.sliceBound x y code).run P w = .ok i.toNat w := by
  subst hx; simp [Instr.sliceBound, go_sem, asIntOf, h0, h1]
theorem r_slice {t : TypeId} {x : Operand} {lo hi mx : Option Operand} {el : TypeId} {a : Option Addr} {l c : Nat} {sz : Nat} (ht : P.underlying t = some (.slice el)) (hz : ∀ w, (sizeOf el).run P w = .ok sz w) (hx : ρ x = .slice a l c)
    (iM iH iL : Int) (hM : match mx with | some o => ∃ k, ρ o = .int k iM | none => iM = c) (hH : match hi with | some o => ∃ k, ρ o = .int k iH | none => mx = none ∧ iH = l) (hL : match lo with | some o => ∃ k, ρ o = .int k iL | none => iL = 0)
    (h1 : 0 ≤ iL) (h2 : iL ≤ iH) (h3 : hi = none ∨ iH ≤ iM) (h4 : iM ≤ c) (w : World) :
    (execOp ρ ⟨dst, .slice t x lo hi mx, ty, pos, af, gd⟩).run P w = .ok (.value (.slice (sliceA a iM.toNat iL.toNat sz) (iH.toNat - iL.toNat) (iM.toNat - iL.toNat))) w := by
  have b1 : ∀ {v : Value} {k : IntKind} {i : Int} {y : Nat} {code : BoundsCode} (w : World), v = .int k i → 0 ≤ i → i ≤ y → (Instr.sliceBound v y code).run P w = .ok i.toNat w := fun w h h0 h1 => run_sliceBound h h0 h1 w
  have hb : (Instr.sliceBounds true l c (lo.map ρ) (hi.map ρ) (mx.map ρ)).run P w = .ok (iL.toNat, iH.toNat, iM.toNat) w := by
    unfold Instr.sliceBounds
    cases mx with
    | none =>
      simp only at hM
      subst hM
      cases hi with
      | none =>
        obtain ⟨_, rfl⟩ := hH
        cases lo with
        | none => subst hL; simp [go_sem]
        | some o => obtain ⟨k, hk⟩ := hL; simp [go_sem, b1 w hk h1 h2]
      | some oh =>
        obtain ⟨kh, hkh⟩ := hH
        have h3' : iH ≤ (c : Int) := by simpa using h3
        have e2 : iL ≤ (iH.toNat : Int) := by omega
        cases lo with
        | none => subst hL; simp [go_sem, b1 w hkh (by omega) h3']
        | some o => obtain ⟨k, hk⟩ := hL; simp [go_sem, b1 w hkh (by omega) h3', b1 w hk h1 e2]
    | some om =>
      obtain ⟨km, hkm⟩ := hM
      cases hi with
      | none => obtain ⟨h, _⟩ := hH; cases h
      | some oh =>
        obtain ⟨kh, hkh⟩ := hH
        have h3' : iH ≤ iM := by simpa using h3
        have e1 : iH ≤ (iM.toNat : Int) := by omega
        have e2 : iL ≤ (iH.toNat : Int) := by omega
        cases lo with
        | none => subst hL; simp [go_sem, b1 w hkm (by omega) h4, b1 w hkh (by omega) e1]
        | some o => obtain ⟨k, hk⟩ := hL; simp [go_sem, b1 w hkm (by omega) h4, b1 w hkh (by omega) e1, b1 w hk h1 e2]
  have e1 : (Instr.sliceAt t (ρ x) (lo.map ρ) (hi.map ρ) (mx.map ρ)).run P w = .ok (.slice (sliceA a iM.toNat iL.toNat sz) (iH.toNat - iL.toNat) (iM.toNat - iL.toNat)) w := by
    unfold Instr.sliceAt Instr.slice
    simp only [Sem.run_bind, run_underlying ht, Result.andThen_ok, hx, hb, hz, Sem.run_pure, sliceA]
  unfold execOp
  simp only [Sem.run_bind, e1, Result.andThen_ok, Sem.run_pure]
end pure

end Go.Tw
