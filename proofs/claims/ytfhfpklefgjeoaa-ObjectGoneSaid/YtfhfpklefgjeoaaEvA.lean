/- A reflective weakest precondition over the model's Code, with an environment of known temporaries. Conditions: none (generic over the program). -/
import Derived.Calls
import Derived.Still
namespace Go.Ev
open Go

abbrev Env := List (Nat × Value)

def lk : Env → Nat → Option Value
  | [], _ => none
  | (m, v) :: r, n => match Nat.beq m n with
    | true => some v
    | false => lk r n

/-- The environment tells the truth of the temporaries. -/
structure St (n : Nat) (ds : List Deferred) (env : Env) (a : Act) : Prop where
  size : a.tmps.size = n
  defers : a.defers = ds
  val : ∀ t v, lk env t = some v → a.tmps[t]? = some v

def ev (env : Env) (x : Operand) (k : Value → Prop) : Prop :=
  match x with
  | .const v => k v
  | .tmp t => match lk env t with
    | some v => k v
    | none => False
  | .global g => k (.pointer (some ⟨g, 0, none⟩))
  | .func f => k (.func (.func f) #[] #[])

theorem ev_sound {n ds env a x} {k : Value → Prop} (h : St n ds env a) (hk : ev env x k) : k (a.eval x) := by
  unfold ev at hk
  cases x with
  | const v => exact hk
  | tmp t =>
    simp only at hk
    cases hl : lk env t with
    | none => rw [hl] at hk; exact hk.elim
    | some v =>
      rw [hl] at hk
      have := h.val t v hl
      simp only [Act.eval, Array.getD_eq_getD_getElem?, this, Option.getD_some]
      exact hk
  | global g => exact hk
  | func f => exact hk

def evs (env : Env) : List Operand → (List Value → Prop) → Prop
  | [], k => k []
  | x :: r, k => ev env x fun v => evs env r fun vs => k (v :: vs)

theorem evs_sound {n ds env a} (h : St n ds env a) : ∀ (l : List Operand) {k : List Value → Prop}, evs env l k → k (l.map a.eval)
  | [], _, hk => hk
  | x :: r, k, hk => by
    have h1 := ev_sound h hk
    exact evs_sound h r h1

/-- Both ways of a test; a test that is known takes its own alone. -/
def sel (b : Bool) (A B : Prop) : Prop := match b with | true => A | false => B
theorem sel_mk {b : Bool} {A B : Prop} (h1 : b = true → A) (h2 : b = false → B) : sel b A B := by
  cases b
  · exact h2 rfl
  · exact h1 rfl
theorem sel_true {b : Bool} {A B : Prop} (h1 : b = true) (h2 : A) : sel b A B := by subst h1; exact h2
theorem sel_false {b : Bool} {A B : Prop} (h1 : b = false) (h2 : B) : sel b A B := by subst h1; exact h2
theorem sel_elim {b : Bool} {A B : Prop} (h : sel b A B) : if b then A else B := by cases b <;> exact h

/-- What must hold for the run to go on. -/
structure Chk (p K : Prop) : Prop where
  intro ::
  unf : p ∧ K
theorem Chk.mk {p K : Prop} (h : p) (k : K) : Chk p K := ⟨⟨h, k⟩⟩
theorem Chk.out {p K : Prop} (h : Chk p K) : p ∧ K := by exact h.unf

/-- A cell that is read. -/
structure Ld (w : World) (a : Addr) (K : Value → Prop) : Prop where
  intro ::
  unf : ∃ v, w.cell? a = some v ∧ K v
theorem Ld.mk {w : World} {a : Addr} {K : Value → Prop} (v : Value) (h : w.cell? a = some v) (k : K v) : Ld w a K := ⟨⟨v, h, k⟩⟩
theorem Ld.out {w : World} {a : Addr} {K : Value → Prop} (h : Ld w a K) : ∃ v, w.cell? a = some v ∧ K v := by exact h.unf

/-- A row of cells that is read. -/
structure LdN (w : World) (a : Addr) (n : Nat) (K : List Value → Prop) : Prop where
  intro ::
  unf : ∃ cs : List Value, cs.length = n ∧ (∀ i, i < n → w.cell? (a.add i) = cs[i]?) ∧ K cs
theorem LdN.mk {w : World} {a : Addr} {n : Nat} {K : List Value → Prop} (cs : List Value) (hl : cs.length = n) (h : ∀ i, i < n → w.cell? (a.add i) = cs[i]?) (k : K cs) : LdN w a n K := by
  exact ⟨⟨cs, hl, h, k⟩⟩
theorem LdN.out {w : World} {a : Addr} {n : Nat} {K : List Value → Prop} (h : LdN w a n K) :
    ∃ cs : List Value, cs.length = n ∧ (∀ i, i < n → w.cell? (a.add i) = cs[i]?) ∧ K cs := by exact h.unf

/-- What a piece of the model comes to. -/
structure Runs {α : Type} (P : Program) (s : Sem α) (w : World) (K : α → World → Prop) : Prop where
  intro ::
  unf : ∃ v w', s.run P w = .ok v w' ∧ K v w'
theorem Runs.mk {α : Type} {P : Program} {s : Sem α} {w : World} {K : α → World → Prop} (v : α) (w' : World) (h : s.run P w = .ok v w') (k : K v w') : Runs P s w K := ⟨⟨v, w', h, k⟩⟩
theorem Runs.out {α : Type} {P : Program} {s : Sem α} {w : World} {K : α → World → Prop} (h : Runs P s w K) : ∃ v w', s.run P w = .ok v w' ∧ K v w' := by exact h.unf

def Upon (P : Program) (K : Value → World → Prop) : Result Next → Prop
  | .ok (.value v) w' => K v w'
  | .ok .skip w' => K undef w'
  | .ok (.enter f args) w' => Calls P f args w' fun e w'' => ∃ v, e = .returned v ∧ K v w''
  | .ok (.row row args) w' => Rows P row args w' fun v w'' => K v w''
  | _ => False

/-- What an operation of the model comes to. -/
structure RunsN (P : Program) (s : Sem Next) (w : World) (K : Value → World → Prop) : Prop where
  intro ::
  unf : Upon P K (s.run P w)
theorem RunsN.mk {P : Program} {s : Sem Next} {w : World} {K : Value → World → Prop} (h : Upon P K (s.run P w)) : RunsN P s w K := ⟨h⟩
theorem RunsN.out {P : Program} {s : Sem Next} {w : World} {K : Value → World → Prop} (h : RunsN P s w K) : Upon P K (s.run P w) := by exact h.unf

/-- A call of a function by its number. -/
structure CallF (P : Program) (f : FuncId) (args : List Value) (w : World) (K : Value → World → Prop) : Prop where
  intro ::
  unf : RunsN P (callFunc f args.toArray) w K
theorem CallF.mk {P : Program} {f : FuncId} {args : List Value} {w : World} {K : Value → World → Prop}
    (hc : (callFunc f args.toArray).run P w = .ok (.enter f args.toArray) w) (h : Calls P f args.toArray w fun e w'' => ∃ v, e = .returned v ∧ K v w'') : CallF P f args w K := by
  refine ⟨.mk ?_⟩; rw [hc]; exact h
/-- A method that is called through an interface value. -/
structure CallM (P : Program) (r : Value) (name : String) (args : List Value) (w : World) (K : Value → World → Prop) : Prop where
  intro ::
  unf : RunsN P (callMethod r name args.toArray) w K
theorem CallM.mk {P : Program} {r : Value} {name : String} {args : List Value} {w : World} {K : Value → World → Prop}
    (h : RunsN P (callMethod r name args.toArray) w K) : CallM P r name args w K := ⟨h⟩
theorem CallM.out {P : Program} {r : Value} {name : String} {args : List Value} {w : World} {K : Value → World → Prop}
    (h : CallM P r name args w K) : RunsN P (callMethod r name args.toArray) w K := by exact h.unf
theorem CallF.out {P : Program} {f : FuncId} {args : List Value} {w : World} {K : Value → World → Prop} (h : CallF P f args w K) : RunsN P (callFunc f args.toArray) w K := by exact h.unf

/-- A small number, written out. -/
def litL : List Nat → Nat → (Nat → Prop) → Prop
  | [], n, k => k n
  | c :: cs, n, k => match Nat.beq n c with
    | true => k c
    | false => litL cs n k
theorem litL_eq : ∀ (l : List Nat) (n : Nat) (k : Nat → Prop), litL l n k → k n
  | [], _, _, h => h
  | c :: cs, n, k, h => by
    simp only [litL] at h
    cases hb : Nat.beq n c with
    | true => rw [hb] at h; rw [Nat.eq_of_beq_eq_true hb]; exact h
    | false => rw [hb] at h; exact litL_eq cs n k h
def litN (n : Nat) (k : Nat → Prop) : Prop := litL [1, 2, 0, 3, 4, 5, 6, 7, 8, 9, 10, 11, 12, 13, 14, 15, 16, 17, 18, 19, 20, 21, 22, 23, 24, 25, 26, 27, 28, 29, 30] n k
theorem litN_eq {n : Nat} {k : Nat → Prop} (h : litN n k) : k n := litL_eq _ n k h
/-- Where a slice begins. -/
def blk : Option Addr → Nat
  | some a => a.block
  | none => 0
def off : Option Addr → Nat
  | some a => a.off
  | none => 0
def okA (a : Option Addr) : Prop := ∃ b o, a = some ⟨b, o, none⟩

def ieq : IntKind → IntKind → Bool
  | .i64, .i64 | .i8, .i8 | .i16, .i16 | .i32, .i32 | .u8, .u8 | .u16, .u16 | .u32, .u32 | .u64, .u64 => true
  | _, _ => false
theorem ieq_spec {j k : IntKind} (h : ieq j k = true) : j = k := by cases j <;> cases k <;> first | rfl | cases h

/-- A number of a kind, wrapped. -/
structure Wr (k : IntKind) (n : Int) (K : Value → Prop) : Prop where
  intro ::
  unf : K (.int k (k.wrap n))
theorem Wr.any {k : IntKind} {n : Int} {K : Value → Prop} (h : K (.int k (k.wrap n))) : Wr k n K := ⟨h⟩
theorem Wr.out {k : IntKind} {n : Int} {K : Value → Prop} (h : Wr k n K) : K (.int k (k.wrap n)) := by exact h.unf
theorem Wr.is {k : IntKind} {n : Int} {K : Value → Prop} (h : Wr k n K) : Wr k n K := h
/-- Arithmetic and tests on whole numbers. -/
def intW (op : BinOp) (k : IntKind) (a b : Int) (K : Value → Prop) : Prop :=
  match op with
  | .add => Wr k (a + b) K
  | .sub => Wr k (a - b) K
  | .mul => Wr k (a * b) K
  | .quo => Chk (b ≠ 0) (Wr k (a.tdiv b) K)
  | .rem => Chk (b ≠ 0) (K (.int k (a.tmod b)))
  | .eql => K (.bool (decide (a = b)))
  | .neq => K (.bool (!decide (a = b)))
  | .lss => K (.bool (decide (a < b)))
  | .leq => K (.bool (decide (a ≤ b)))
  | .gtr => K (.bool (decide (b < a)))
  | .geq => K (.bool (decide (b ≤ a)))
  | _ => False
def shW (op : BinOp) (k : IntKind) (a b : Int) (K : Value → Prop) : Prop :=
  match op with
  | .shl => Chk (0 ≤ b) (Wr k (a * 2 ^ (min b.toNat k.bits)) K)
  | .shr => Chk (0 ≤ b) (K (.int k (a.fdiv (2 ^ (min b.toNat k.bits)))))
  | _ => False
def seq (a b : ByteArray) : Bool := a.toList == b.toList
def slt (a b : ByteArray) : Bool := Op.bytesLess a.toList b.toList
def strW (op : BinOp) (a b : ByteArray) (K : Value → Prop) : Prop :=
  match op with
  | .add => Chk (((a.size + b.size : Nat) : Int) ≤ IntKind.i64.max) (K (.string (a ++ b)))
  | .eql => K (.bool (seq a b))
  | .neq => K (.bool (!seq a b))
  | .lss => K (.bool (slt a b))
  | .leq => K (.bool (slt a b || seq a b))
  | .gtr => K (.bool (!(slt a b || seq a b)))
  | .geq => K (.bool (!slt a b))
  | _ => False
def isC : Operand → Bool
  | .const _ => true
  | _ => false
def isShift : BinOp → Bool
  | .shl | .shr => true
  | _ => false
/-- A value that is compared as one with 'nil', or a bool with a bool: by what shows alone. -/
def nilEq (P : Program) (t : TypeId) (cx cy : Bool) (x y : Value) : Option Bool :=
  match x with
  | .bool a => match y with
    | .bool b => match P.underlying t with
      | some .bool => some (a == b)
      | _ => none
    | _ => none
  | .pointer a => match y with
    | .pointer none => match P.underlying t with
      | some (.pointer _) => some a.isNone
      | _ => none
    | .pointer (some _) => match a with
      | none => match P.underlying t with
        | some (.pointer _) => some false
        | _ => none
      | some _ => none
    | _ => none
  | .nilIface => match y with
    | .nilIface => match cx || cy with
      | true => match P.underlying t with
        | some (.interface _) => some true
        | _ => none
      | false => none
    | .iface _ _ => match P.underlying t with
      | some (.interface _) => some false
      | _ => none
    | _ => none
  | .iface _ _ => match y with
    | .nilIface => match P.underlying t with
      | some (.interface _) => some false
      | _ => none
    | _ => none
  | .slice a _ _ => match y with
    | .slice none _ _ => match P.underlying t with
      | some (.slice _) => some a.isNone
      | _ => none
    | .slice (some _) _ _ => match a with
      | none => match P.underlying t with
        | some (.slice _) => some false
        | _ => none
      | some _ => none
    | _ => none
  | .map a => match y with
    | .map none => match P.underlying t with
      | some (.map _ _) => some a.isNone
      | _ => none
    | _ => none
  | .nilFunc => match y with
    | .nilFunc => match P.underlying t with
      | some (.func _ _ _) => some true
      | _ => none
    | .func _ _ _ => match P.underlying t with
      | some (.func _ _ _) => some false
      | _ => none
    | _ => none
  | .func _ _ _ => match y with
    | .nilFunc => match P.underlying t with
      | some (.func _ _ _) => some false
      | _ => none
    | _ => none
  | _ => none

def eqSide (P : Program) (t : TypeId) : Value → Value → Prop
  | .agg _, .agg _ => P.eqGuardType P.depth t = false
  | .nilIface, .nilIface => False
  | _, _ => True
/-- Equality of two values, whatever they are. -/
structure EqP (P : Program) (t : TypeId) (x y : Value) (w : World) (K : Bool → Prop) : Prop where
  intro ::
  unf : ∃ b, (Op.equal t x y).run P w = .ok b w ∧ eqSide P t x y ∧ K b

def eqW (P : Program) (op : BinOp) (t : TypeId) (cx cy : Bool) (x y : Value) (w : World) (K : Value → World → Prop) : Prop :=
  match op with
  | .eql => match nilEq P t cx cy x y with
    | some b => K (.bool b) w
    | none => EqP P t x y w fun b => K (.bool b) w
  | .neq => match nilEq P t cx cy x y with
    | some b => K (.bool (!b)) w
    | none => EqP P t x y w fun b => K (.bool (!b)) w
  | _ => False
def binW (P : Program) (op : BinOp) (t : TypeId) (cx cy : Bool) (x y : Value) (w : World) (K : Value → World → Prop) : Prop :=
  match x with
  | .int k a => match y with
    | .int k' b => match isShift op with
      | true => shW op k a b fun v => K v w
      | false => match ieq k k' with
        | true => intW op k a b fun v => K v w
        | false => False
    | _ => False
  | .string a => match y with
    | .string b => strW op a b fun v => K v w
    | _ => False
  | .complex k a b => Runs P (Go.binOp op t (.complex k a b) y) w K
  | .float k a => Runs P (Go.binOp op t (.float k a) y) w K
  | _ => eqW P op t cx cy x y w K

def eqPu (P : Program) (op : BinOp) (t : TypeId) (cx cy : Bool) (x y : Value) (k : Value → Prop) : Prop :=
  match op with
  | .eql => match nilEq P t cx cy x y with
    | some b => k (.bool b)
    | none => False
  | .neq => match nilEq P t cx cy x y with
    | some b => k (.bool (!b))
    | none => False
  | _ => False
/-- What hangs on nothing but the two values. -/
def binP (P : Program) (op : BinOp) (t : TypeId) (cx cy : Bool) (x y : Value) (k : Value → Prop) : Prop :=
  match x with
  | .int j a => match y with
    | .int j' b => match isShift op with
      | true => shW op j a b k
      | false => match ieq j j' with
        | true => intW op j a b k
        | false => False
    | _ => False
  | .string a => match y with
    | .string b => strW op a b k
    | _ => False
  | .complex _ _ _ => False
  | .float _ _ => False
  | _ => eqPu P op t cx cy x y k

def ldW (P : Program) (t : TypeId) (p : Addr) (w : World) (K : Value → Prop) : Prop :=
  match P.underlying t with
  | some (.struct _) => match P.info? t with
    | some i => litN i.size fun sz => LdN w p sz fun cs => K (.agg cs.toArray)
    | none => False
  | some (.array _ _) => match P.info? t with
    | some i => litN i.size fun sz => LdN w p sz fun cs => K (.agg cs.toArray)
    | none => False
  | some _ => Ld w p K
  | none => False

def partL : List Value → Nat → (List Value → Prop) → Prop
  | _, 0, k => k []
  | [], _ + 1, k => k []
  | v :: vs, n + 1, k => partL vs n fun r => k (v :: r)
theorem partL_eq : ∀ (l : List Value) (n : Nat) {k : List Value → Prop}, partL l n k → k (l.take n)
  | _, 0, _, h => by simpa [partL] using h
  | [], _ + 1, _, h => by simpa [partL] using h
  | v :: vs, n + 1, k, h => by
    have := partL_eq vs n (k := fun r => k (v :: r)) h
    simpa using this
def partW (P : Program) (t : TypeId) (cs : Array Value) (off : Nat) (K : Value → Prop) : Prop :=
  match P.underlying t with
  | some (.struct _) => match P.info? t with
    | some i => litN i.size fun sz => partL (cs.toList.drop off) sz fun r => K (.agg r.toArray)
    | none => False
  | some (.array _ _) => match P.info? t with
    | some i => litN i.size fun sz => partL (cs.toList.drop off) sz fun r => K (.agg r.toArray)
    | none => False
  | some _ => match cs.toList[off]? with
    | some v => K v
    | none => False
  | none => False

def isIface (P : Program) (t : TypeId) : Option Bool :=
  match P.underlying t with
  | some (.interface _) => some true
  | some _ => some false
  | none => none
end Go.Ev
