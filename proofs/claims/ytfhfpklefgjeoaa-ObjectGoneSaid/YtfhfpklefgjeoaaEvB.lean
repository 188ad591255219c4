/- The operations: what each comes to, over an environment of known temporaries; and that this is the model's. Conditions: none. -/
import Derived.Test.YtfhfpklefgjeoaaEvA
namespace Go.Ev
open Go

/-- Anything other: by the model's own run. -/
structure OpP (P : Program) (o : Oper) (env : Env) (w : World) (K : Value → World → Prop) : Prop where
  intro ::
  unf : ∀ n ds a, St n ds env a → Upon P K ((execOp a.eval o).run P w)

def forceL : List Value → (List Value → Prop) → Prop
  | [], k => k []
  | v :: vs, k => forceL vs fun r => k (v :: r)
def replW : List Value → Nat → List Value → (List Value → Prop) → Prop
  | c :: cs, o, v :: vs, k => match o with
    | 0 => replW cs 0 vs fun r => k (v :: r)
    | o + 1 => replW cs o (v :: vs) fun r => k (c :: r)
  | cs, _, [], k => forceL cs k
  | [], _, _ :: _, _ => False
def placesW (P : Program) : List Field → (List (Nat × Nat) → Prop) → Prop
  | [], k => k []
  | f :: fs, k => match P.info? f.type with
    | some i => placesW P fs fun r => k ((f.offset, i.size) :: r)
    | none => False
def vcells : Value → List Value
  | .agg cs => cs.toList
  | v => [v]
def fillW (place : Nat → Option (Nat × Nat)) : List Value → List (Nat × Value) → (List Value → Prop) → Prop
  | cs, [], k => forceL cs k
  | cs, (i, v) :: r, k => match place i with
    | some (o, n) => match Nat.beq (vcells v).length n with
      | true => match Nat.ble (o + n) cs.length with
        | true => replW cs o (vcells v) fun cs => fillW place cs r k
        | false => False
      | false => False
    | none => False
def buildW (P : Program) (t : TypeId) (ps : List (Nat × Value)) (k : List Value → Prop) : Prop :=
  match P.info? t with
  | some i => match i.zero with
    | some z => match P.underlying t with
      | some (.struct fs) => placesW P fs.toList fun pl => fillW (fun i => pl[i]?) (vcells z) ps k
      | some (.array _ e) => match P.info? e with
        | some ie => fillW (fun i => some (i * ie.size, ie.size)) (vcells z) ps k
        | none => False
      | _ => False
    | none => False
  | none => False
def repeatL (z : List Value) : Nat → List Value
  | 0 => []
  | n + 1 => z ++ repeatL z n
/-- The cells of a slice that is written out. -/
def bsliceW (P : Program) (t : TypeId) (len : Nat) (ps : List (Nat × Value)) (k : TypeId → List Value → Prop) : Prop :=
  match P.underlying t with
  | some (.slice e) => match P.info? e with
    | some i => match i.zero with
      | some z => match Nat.beq (vcells z).length i.size with
        | true => match Nat.ble (len * i.size) 16777216 with
          | true => fillW (fun j => some (j * i.size, i.size)) (repeatL (vcells z) len) ps (k e)
          | false => False
        | false => False
      | none => False
    | none => False
  | _ => False
/-- A new row of cells. -/
structure New (T : TypeId) (cs : List Value) (w : World) (K : Nat → World → Prop) : Prop where
  intro ::
  unf : K w.heap.size { w with heap := w.heap.push (.cells cs.toArray T) }
theorem New.out {T : TypeId} {cs : List Value} {w : World} {K : Nat → World → Prop} (h : New T cs w K) : K w.heap.size { w with heap := w.heap.push (.cells cs.toArray T) } := by exact h.unf
theorem New.mk {T : TypeId} {cs : List Value} {w : World} {K : Nat → World → Prop} (h : K w.heap.size { w with heap := w.heap.push (.cells cs.toArray T) }) : New T cs w K := ⟨h⟩
def zeroW (P : Program) (e : TypeId) (k : List Value → Prop) : Prop :=
  match P.info? e with
  | some i => match i.zero with
    | some z => forceL (vcells z) k
    | none => False
  | none => False

/-- What hangs on the temporaries alone. -/
def opP (P : Program) (o : Oper) (env : Env) (k : Value → Prop) : Prop :=
  match o.op with
  | .move x => ev env x k
  | .assign x => ev env x k
  | .pick c a b => ev env c fun vc => match vc with
    | .bool t => sel t (ev env a k) (ev env b k)
    | _ => False
  | .build t ps => evs env (ps.toList.map (·.2)) fun vs => buildW P t ((ps.toList.map (·.1)).zip vs) fun cs => k (.agg cs.toArray)
  | .nilCheck x => ev env x fun v => match v with
    | .pointer (some p) => k (.pointer (some p))
    | .iface t u => k (.iface t u)
    | .func (.func g) x y => k (.func (.func g) x y)
    | _ => False
  | .binOp op t x y _ => ev env x fun vx => ev env y fun vy => binP P op t (isC x) (isC y) vx vy k
  | .unOp op _ x => ev env x fun v => match v with
    | .int j n => match op with
      | .neg => Wr j (0 - n) k
      | _ => False
    | .bool b => match op with
      | .not => k (.bool (!b))
      | _ => False
    | _ => False
  | .convert s d x => ev env x fun v => match v with
    | .int _ n => match P.underlying s with
      | some _ => match P.underlying d with
        | some (.int j) => Wr j n k
        | _ => False
      | none => False
    | _ => False
  | .makeInterface t x => ev env x fun v => match isIface P t with
    | some false => k (.iface t v)
    | _ => False
  | .makeFunc fn a b => evs env a.toList fun va => evs env b.toList fun vb => k (.func fn va.toArray vb.toArray)
  | .fieldAddr s x f => ev env x fun v => match v with
    | .pointer (some ⟨b, o, none⟩) => match P.underlying s with
      | some (.struct fs) => match fs.toList[f]? with
        | some fd => match P.info? fd.type with
          | some i => match Nat.beq i.size 0 with
            | false => litN fd.offset fun fo => k (.pointer (some ⟨b, o + fo, none⟩))
            | true => False
          | none => False
        | none => False
      | _ => False
    | _ => False
  | .field t x f => ev env x fun v => match v with
    | .agg cs => match P.underlying t with
      | some (.struct fs) => match fs.toList[f]? with
        | some fd => litN fd.offset fun fo => partW P fd.type cs fo k
        | none => False
      | _ => False
    | _ => False
  | .indexAddr t x i => ev env x fun vx => ev env i fun vi => match vi with
    | .int _ n => match vx with
      | .slice a len _ => match P.underlying t with
        | some (.slice e) => match P.info? e with
          | some inf => litN inf.size fun sz => Chk (0 ≤ n ∧ n < len ∧ okA a) (k (.pointer (some ⟨blk a, off a + n.toNat * sz, none⟩)))
          | none => False
        | _ => False
      | .pointer (some ⟨b, o, none⟩) => match P.underlying t with
        | some (.array len e) => match P.info? e with
          | some inf => litN inf.size fun sz => Chk (0 ≤ n ∧ n < len) (k (.pointer (some ⟨b, o + n.toNat * sz, none⟩)))
          | none => False
        | _ => False
      | _ => False
    | _ => False
  | .extract x i => ev env x fun v => match v with
    | .tuple vs => match vs.toList[i]? with
      | some v => k v
      | none => False
    | _ => False
  | .call c => match c.callee with
    | .builtin .len => evs env c.args.toList fun vs => match vs with
      | [.slice _ n _] => match c.argTypes.toList with
        | t :: _ => match P.underlying t with
          | some (.slice _) => k (.int .i64 n)
          | _ => False
        | [] => False
      | [.string s] => match c.argTypes.toList with
        | t :: _ => match P.underlying t with
          | some .string => k (.int .i64 s.size)
          | _ => False
        | [] => False
      | _ => False
    | .builtin .min => evs env c.args.toList fun vs => match vs with
      | [.int j a, .int _ b] => k (.int j (if b < a then b else a))
      | _ => False
    | .builtin .max => evs env c.args.toList fun vs => match vs with
      | [.int j a, .int _ b] => k (.int j (if a < b then b else a))
      | _ => False
    | _ => False
  | _ => False

def opW (P : Program) (o : Oper) (env : Env) (w : World) (K : Value → World → Prop) : Prop :=
  match o.op with
  | .move _ | .assign _ | .pick _ _ _ | .build _ _ | .nilCheck _ | .makeInterface _ _ | .makeFunc _ _ _ | .fieldAddr _ _ _ | .field _ _ _ | .indexAddr _ _ _ | .extract _ _ => opP P o env fun v => K v w
  | .alloc e => zeroW P e fun cs => New e cs w fun b w' => K (.pointer (some ⟨b, 0, none⟩)) w'
  | .box e x => ev env x fun v => forceL (vcells v) fun cs => New e cs w fun b w' => K (.pointer (some ⟨b, 0, none⟩)) w'
  | .buildSlice t len ps => evs env (ps.toList.map (·.2)) fun vs => bsliceW P t len ((ps.toList.map (·.1)).zip vs) fun e cs => New e cs w fun b w' => K (.slice (some ⟨b, 0, none⟩) len len) w'
  | .load t x => ev env x fun v => match v with
    | .pointer (some p) => ldW P t p w fun v => K v w
    | _ => False
  | .store t x y => ev env x fun vx => ev env y fun vy => Runs P (Instr.storeAt t vx vy) w fun _ w' => K undef w'
  | .binOp op t x y _ => ev env x fun vx => ev env y fun vy => binW P op t (isC x) (isC y) vx vy w K
  | .unOp op _ x => ev env x fun v => match v with
    | .int k n => match op with
      | .neg => Wr k (0 - n) fun v => K v w
      | _ => False
    | .bool b => match op with
      | .not => K (.bool (!b)) w
      | _ => False
    | v => Runs P (Op.unary op v) w K
  | .convert s d x => ev env x fun v => match v with
    | .int k n => match P.underlying s with
      | some _ => match P.underlying d with
        | some (.int k') => Wr k' n fun v => K v w
        | _ => Runs P (convert s d (.int k n)) w K
      | none => False
    | v => Runs P (convert s d v) w K
  | .makeSlice t x y => ev env x fun vx => ev env y fun vy => Runs P (Instr.makeSlice t vx vy) w K
  | .index t x i => ev env x fun vx => ev env i fun vi => Runs P (Instr.index t vx vi) w K
  | .call c => match c.callee with
    | .value f => ev env f fun vf => evs env c.args.toList fun vs => match vf with
      | .func (.func g) fs cs => forceL (fs.toList ++ vs ++ cs.toList) fun vs => CallF P g vs w K
      | .func fn fs cs => RunsN P (invoke (.fn fn cs) (fs ++ vs.toArray)) w K
      | _ => False
    | .invoke r m => ev env r fun vr => evs env c.args.toList fun vs => forceL vs fun vs => CallM P vr m vs w K
    | .builtin .len => evs env c.args.toList fun vs => match vs with
      | [.slice _ n _] => match c.argTypes.toList with
        | t :: _ => match P.underlying t with
          | some (.slice _) => K (.int .i64 n) w
          | _ => False
        | [] => False
      | [.string s] => match c.argTypes.toList with
        | t :: _ => match P.underlying t with
          | some .string => K (.int .i64 s.size) w
          | _ => False
        | [] => False
      | _ => Runs P (Builtin.len_ c.argTypes o.type vs.toArray) w K
    | .builtin .append => evs env c.args.toList fun vs => Runs P (Builtin.append_ c.argTypes o.type vs.toArray) w K
    | .builtin .copy => evs env c.args.toList fun vs => Runs P (Builtin.copy_ c.argTypes o.type vs.toArray) w K
    | .builtin .delete => evs env c.args.toList fun vs => Runs P (Builtin.delete_ c.argTypes o.type vs.toArray) w K
    | .builtin .min => evs env c.args.toList fun vs => match vs with
      | [.int k a, .int _ b] => K (.int k (if b < a then b else a)) w
      | _ => Runs P (Builtin.min_ c.argTypes o.type vs.toArray) w K
    | .builtin .max => evs env c.args.toList fun vs => match vs with
      | [.int k a, .int _ b] => K (.int k (if a < b then b else a)) w
      | _ => Runs P (Builtin.max_ c.argTypes o.type vs.toArray) w K
    | .builtin .complex => evs env c.args.toList fun vs => Runs P (Builtin.complex_ c.argTypes o.type vs.toArray) w K
    | .builtin .real => evs env c.args.toList fun vs => Runs P (Builtin.real_ c.argTypes o.type vs.toArray) w K
    | .builtin .imag => evs env c.args.toList fun vs => Runs P (Builtin.imag_ c.argTypes o.type vs.toArray) w K
    | _ => OpP P o env w K
  | .lookup t x i ok => ev env x fun vx => ev env i fun vi => Runs P (Instr.lookup t vx vi ok) w K
  | .mapUpdate t m k x => ev env m fun vm => ev env k fun vk => ev env x fun vx => Runs P (Instr.mapUpdate t vm vk vx) w fun _ w' => K undef w'
  | .slice t x lo hi mx => ev env x fun vx => evs env lo.toList fun vl => evs env hi.toList fun vh => evs env mx.toList fun vm =>
      Runs P (Instr.sliceAt t vx vl.head? vh.head? vm.head?) w K
  | .typeAssert x t u ok => ev env x fun vx => Runs P (Instr.typeAssert vx t u ok) w K
  | _ => OpP P o env w K
end Go.Ev
