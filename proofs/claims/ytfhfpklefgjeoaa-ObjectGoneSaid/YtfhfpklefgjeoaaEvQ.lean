/- Regions whose order is drawn: one order, checked by a Bool, serves every order. Conditions: none. -/
import Derived.Test.YtfhfpklefgjeoaaEvG
import Derived.Orders
namespace Go.Ev
open Go

/-- A load that reads the same in every world of a class. -/
structure LdG (C : World → Prop) (a : Addr) (K : Value → Prop) : Prop where
  intro ::
  unf : ∃ v, (∀ u, C u → u.cell? a = some v) ∧ K v
theorem LdG.mk {C : World → Prop} {a : Addr} {K : Value → Prop} (v : Value) (h : ∀ u, C u → u.cell? a = some v) (k : K v) : LdG C a K := ⟨⟨v, h, k⟩⟩
theorem LdG.out {C : World → Prop} {a : Addr} {K : Value → Prop} (h : LdG C a K) : ∃ v, (∀ u, C u → u.cell? a = some v) ∧ K v := by exact h.unf
structure LdGN (C : World → Prop) (a : Addr) (n : Nat) (K : List Value → Prop) : Prop where
  intro ::
  unf : ∃ cs : List Value, cs.length = n ∧ (∀ u, C u → ∀ i, i < n → u.cell? (a.add i) = cs[i]?) ∧ K cs
theorem LdGN.mk {C : World → Prop} {a : Addr} {n : Nat} {K : List Value → Prop} (cs : List Value) (hl : cs.length = n) (h : ∀ u, C u → ∀ i, i < n → u.cell? (a.add i) = cs[i]?) (k : K cs) : LdGN C a n K := ⟨⟨cs, hl, h, k⟩⟩
theorem LdGN.out {C : World → Prop} {a : Addr} {n : Nat} {K : List Value → Prop} (h : LdGN C a n K) :
    ∃ cs : List Value, cs.length = n ∧ (∀ u, C u → ∀ i, i < n → u.cell? (a.add i) = cs[i]?) ∧ K cs := by exact h.unf
def ldG (P : Program) (C : World → Prop) (t : TypeId) (p : Addr) (K : Value → Prop) : Prop :=
  match P.underlying t with
  | some (.struct _) => match P.info? t with
    | some i => litN i.size fun sz => LdGN C p sz fun cs => K (.agg cs.toArray)
    | none => False
  | some (.array _ _) => match P.info? t with
    | some i => litN i.size fun sz => LdGN C p sz fun cs => K (.agg cs.toArray)
    | none => False
  | some _ => LdG C p K
  | none => False
def ldOp (P : Program) (o : Oper) (env : Env) (w : World) (k : Value → Prop) : Prop :=
  match o.op with
  | .load t x => ev env x fun v => match v with
    | .pointer (some p) => ldW P t p w k
    | _ => False
  | _ => False
def ldOpG (P : Program) (C : World → Prop) (o : Oper) (env : Env) (k : Value → Prop) : Prop :=
  match o.op with
  | .load t x => ev env x fun v => match v with
    | .pointer (some p) => ldG P C t p k
    | _ => False
  | _ => False
/-- A plan: the operations in one order that the edges allow. 0: it hangs on the temporaries alone; 1: a load that reads the same in every world of the class C; 2: any other, which leaves a world of C; 3: any other; 4: a load. -/
def opsD (P : Program) (C : World → Prop) (n : Nat) (all : List Oper) : List (Nat × Nat) → Env → World → (Env → World → Prop) → Prop
  | [], env, w, K => K env w
  | (i, kd) :: rest, env, w, K => match all[i]? with
    | none => False
    | some o => grdW all o.guard env
      (fun env => match kd with
        | 0 => opP P o env fun v => dstW n o.dst v env fun env' => opsD P C n all rest env' w K
        | 1 => ldOpG P C o env fun v => dstW n o.dst v env fun env' => opsD P C n all rest env' w K
        | 2 => opW P o env w fun v w' => C w' ∧ dstW n o.dst v env fun env' => opsD P C n all rest env' w' K
        | 3 => opW P o env w fun v w' => dstW n o.dst v env fun env' => opsD P C n all rest env' w' K
        | _ => ldOp P o env w fun v => dstW n o.dst v env fun env' => opsD P C n all rest env' w K)
      (fun env => dstW n o.dst undef env fun env' => opsD P C n all rest env' w K)

def isVal (k : Nat) : Bool := k == 0 || k == 1 || decide (4 ≤ k)
def cert (P : Program) (C : World → Prop) (kd : Nat) (o : Oper) (a : Act) (w : World) (v : Value) : Prop :=
  match kd with
  | 0 => ∀ u, (execOp a.eval o).run P u = .ok (.value v) u
  | 1 => C w ∧ ∀ u, C u → (execOp a.eval o).run P u = .ok (.value v) u
  | _ => (execOp a.eval o).run P w = .ok (.value v) w
def Q0 : Exit → Act → World → Prop := fun _ _ _ => False
def RunD (P : Program) (C : World → Prop) (ops : Array Oper) : List (Nat × Nat) → (Act → World → Prop) → Act → World → Prop
  | [], K, a, w => K a w
  | (i, kd) :: r, K, a, w => match ops[i]? with
    | none => False
    | some o => if Region.wanted o (yielded ops a.tmps) then
        if isVal kd then ∃ v, cert P C kd o a w v ∧ RunD P C ops r K (a.put o.dst v) w
        else o.wp P a w (fun a' w' => (kd = 2 → C w') ∧ RunD P C ops r K a' w') Q0
      else RunD P C ops r K (a.put o.dst undef) w

def anc (ops : Array Oper) : Nat → Nat → Nat → Bool
  | 0, _, _ => false
  | f + 1, x, y => match ops[y]? with
    | some o => o.after.any fun e => Region.binds .any e && (e.on == x || anc ops f x e.on)
    | none => false
def kindsOK (ki kj : Nat) : Bool := ki == 0 || (ki == 1 && kj != 3) || (decide (4 ≤ ki) && isVal kj)
def commD (ops : Array Oper) (x y : Nat × Nat) : Bool :=
  match ops[x.1]?, ops[y.1]? with
  | some ox, some oy => ox.apart ops oy && oy.apart ops ox && kindsOK x.2 y.2
  | _, _ => false
def pairOK (ops : Array Oper) (x y : Nat × Nat) : Bool :=
  (commD ops x y || anc ops ops.size x.1 y.1) && (match ops[x.1]? with
    | some o => o.after.all fun e => !(Region.binds .any e) || e.on != y.1
    | none => false) && x.1 != y.1
def pairsOK (ops : Array Oper) : List (Nat × Nat) → Bool
  | [] => true
  | x :: r => r.all (pairOK ops x) && pairsOK ops r
def keepsC : List (Nat × Nat) → Bool
  | [] => true
  | (_, k) :: r => if k == 3 then r.all (fun x => x.2 != 1) && keepsC r else keepsC r
def planOK (ops : Array Oper) (p : List (Nat × Nat)) : Bool :=
  pairsOK ops p && p.length == ops.size && (List.range ops.size).all (fun i => p.any fun x => x.1 == i) && Region.noSelect ops &&
    ((List.range ops.size).all fun j => match ops[j]? with
      | some o => o.after.all fun e => !(Region.binds .any e) || (decide (e.on < ops.size) && e.on != j)
      | none => true) && keepsC p

section
variable {P : Program} {C : World → Prop} {n : Nat} {ds : List Deferred} {ops : Array Oper}

theorem eval_tmps {a b : Act} (h : a.tmps = b.tmps) : a.eval = b.eval := by
  funext x; cases x <;> simp [Act.eval, h]
theorem put_tmps {a b : Act} (h : a.tmps = b.tmps) (d : Option Tmp) (v : Value) : (a.put d v).tmps = (b.put d v).tmps := by
  cases d <;> simp [Act.put, h]
theorem cert_congr {kd : Nat} {o : Oper} {a a' : Act} {w : World} {v : Value} (he : execOp a'.eval o = execOp a.eval o) (h : cert P C kd o a w v) : cert P C kd o a' w v := by
  unfold cert at *
  rw [he]; exact h
theorem cert_run {kd : Nat} {o : Oper} {a : Act} {w : World} {v : Value} (h : cert P C kd o a w v) : (execOp a.eval o).run P w = .ok (.value v) w := by
  unfold cert at h
  split at h
  · exact h w
  · exact h.2 w h.1
  · exact h
theorem wpMono {o : Oper} {a : Act} {w : World} {N N' : Act → World → Prop} (hn : ∀ a' w', N a' w' → N' a' w') (h : o.wp P a w N Q0) : o.wp P a w N' Q0 := by
  unfold Oper.wp at *
  generalize (execOp a.eval o).run P w = x at h ⊢
  cases x with
  | ok nx w' =>
    cases nx <;> simp only [Oper.upon] at h ⊢
    case enter f args =>
      refine Calls.mono h fun e w'' he => ?_
      cases e <;> first | exact hn _ _ he | exact he
    case row rw args => exact Rows.mono h fun v w'' hv => hn _ _ hv
    all_goals exact hn _ _ h
  | halt x w' => cases x <;> simp only [Oper.upon] at h <;> exact h

theorem wp_put {oi oj : Oper} {v : Value} {a : Act} {w : World} {N : Act → World → Prop} (h1 : ∀ d, oi.dst = some d → d ∉ oj.looksAt ops) (h2 : ∀ d, oi.dst = some d → oj.dst ≠ some d)
    (hs : ∀ cs b, oj.op ≠ .select cs b) (h : oj.wp P (a.put oi.dst v) w N Q0) : oj.wp P a w (fun a' w' => N (a'.put oi.dst v) w' ∧ ∃ u, a'.tmps = (a.put oj.dst u).tmps) Q0 := by
  unfold Oper.wp at *
  rw [execOp_put oj hs a oi.dst v h1] at h
  generalize (execOp a.eval oj).run P w = x at h ⊢
  have key : ∀ u w', N ((a.put oi.dst v).put oj.dst u) w' → N ((a.put oj.dst u).put oi.dst v) w' ∧ ∃ u', (a.put oj.dst u).tmps = (a.put oj.dst u').tmps :=
    fun u w' hn => ⟨by rw [← Act.put_comm a v u h2]; exact hn, u, rfl⟩
  cases x with
  | ok nx w' =>
    cases nx <;> simp only [Oper.upon] at h ⊢
    case value u => exact key u w' h
    case skip => exact key undef w' h
    case enter f args =>
      refine Calls.mono h fun e w'' he => ?_
      cases e with
      | returned u => exact key u w'' he
      | panicked c => exact he
      | outgrown => exact he
    case row r args => exact Rows.mono h fun u w'' he => key u w'' he
    case defer d =>
      have e1 : ({ a.put oi.dst v with defers := d :: (a.put oi.dst v).defers } : Act) = ({ a with defers := d :: a.defers } : Act).put oi.dst v := by
        cases oi.dst <;> rfl
      refine ⟨?_, undef, put_tmps (a := { a with defers := d :: a.defers }) (b := a) rfl _ _⟩
      rw [e1, Act.put_comm _ v undef h2] at h
      exact h
  | halt x w' => cases x <;> simp only [Oper.upon] at h <;> exact h


theorem RunD.head_mono {i kd : Nat} {r r' : List (Nat × Nat)} {K K' : Act → World → Prop} (hr : ∀ a w, RunD P C ops r K a w → RunD P C ops r' K' a w) {a : Act} {w : World} (h : RunD P C ops ((i, kd) :: r) K a w) :
    RunD P C ops ((i, kd) :: r') K' a w := by
  simp only [RunD] at h ⊢
  cases ho : ops[i]? with
  | none => rw [ho] at h; exact h
  | some o =>
    rw [ho] at h
    simp only at h ⊢
    by_cases hw : Region.wanted o (yielded ops a.tmps) = true
    · rw [if_pos hw] at h ⊢
      by_cases hv : isVal kd = true
      · rw [if_pos hv] at h ⊢
        obtain ⟨v, h1, h2⟩ := h
        exact ⟨v, h1, hr _ _ h2⟩
      · rw [if_neg hv] at h ⊢
        exact wpMono (fun a' w' hh => ⟨hh.1, hr _ _ hh.2⟩) h
    · rw [if_neg hw] at h ⊢
      exact hr _ _ h

theorem noSel {i : Nat} {o : Oper} (h : Region.noSelect ops = true) (ho : ops[i]? = some o) : ∀ cs b, o.op ≠ .select cs b := fun cs b => Region.noSelect_spec h i o cs b ho

theorem RunD.swap {i j ki kj : Nat} {r : List (Nat × Nat)} {K : Act → World → Prop} (hs : Region.noSelect ops = true) (hc : commD ops (i, ki) (j, kj) = true) {a : Act} {w : World}
    (h : RunD P C ops ((i, ki) :: (j, kj) :: r) K a w) : RunD P C ops ((j, kj) :: (i, ki) :: r) K a w := by
  unfold commD at hc
  cases hoi : ops[i]? with
  | none => simp [hoi] at hc
  | some oi =>
    cases hoj : ops[j]? with
    | none => simp [hoi, hoj] at hc
    | some oj =>
      simp only [hoi, hoj, Bool.and_eq_true] at hc
      obtain ⟨⟨ap1, ap2⟩, hk⟩ := hc
      obtain ⟨h1, h2, h3⟩ := Oper.apart_spec ap1
      have si := noSel hs hoi
      have sj := noSel hs hoj
      have wj : ∀ (a : Act) (v : Value), Region.wanted oj (yielded ops (a.put oi.dst v).tmps) = Region.wanted oj (yielded ops a.tmps) := fun a v => wanted_put oj a oi.dst v h1
      have wi : ∀ (a : Act) (v : Value), Region.wanted oi (yielded ops (a.put oj.dst v).tmps) = Region.wanted oi (yielded ops a.tmps) := fun a v => wanted_put oi a oj.dst v h3
      have ej : ∀ (a : Act) (v : Value), execOp (a.put oi.dst v).eval oj = execOp a.eval oj := fun a v => execOp_put oj sj a oi.dst v h1
      have ei : ∀ (a : Act) (v : Value), execOp (a.put oj.dst v).eval oi = execOp a.eval oi := fun a v => execOp_put oi si a oj.dst v h3
      have cm : ∀ {a : Act} v u, (a.put oi.dst v).put oj.dst u = (a.put oj.dst u).put oi.dst v := fun {a} v u => Act.put_comm a v u h2
      have vi : isVal ki = true := by
        unfold kindsOK isVal at *
        simp only [Bool.or_eq_true, Bool.and_eq_true, beq_iff_eq, decide_eq_true_eq] at hk ⊢
        rcases hk with (h | h) | h
        · exact .inl (.inl h)
        · exact .inl (.inr h.1)
        · exact .inr h.1
      simp only [RunD, hoi, hoj] at h ⊢
      by_cases hwi : Region.wanted oi (yielded ops a.tmps) = true
      · rw [if_pos hwi, if_pos vi] at h
        obtain ⟨v, hv, h⟩ := h
        have wi' : ∀ v, Region.wanted oi (yielded ops (a.put oj.dst v).tmps) = true := fun v => by rw [wi]; exact hwi
        by_cases hwj : Region.wanted oj (yielded ops a.tmps) = true
        · rw [if_pos (by rw [wj]; exact hwj)] at h
          rw [if_pos hwj]
          by_cases vj : isVal kj = true
          · rw [if_pos vj] at h ⊢
            obtain ⟨u, hu, h⟩ := h
            refine ⟨u, cert_congr (ej a v).symm hu, ?_⟩
            rw [if_pos (wi' u), if_pos vi]
            exact ⟨v, cert_congr (ei a u) hv, by rw [← cm]; exact h⟩
          · rw [if_neg vj] at h ⊢
            have h4 := wp_put (ops := ops) h1 h2 sj h
            refine wpMono (fun a' w' hh => ?_) h4
            obtain ⟨⟨hC, hn⟩, u, hu⟩ := hh
            have e1 : execOp a'.eval oi = execOp a.eval oi := by rw [eval_tmps hu, ei]
            have e2 : Region.wanted oi (yielded ops a'.tmps) = true := by rw [hu]; exact wi' u
            refine ⟨hC, ?_⟩
            rw [if_pos e2, if_pos vi]
            refine ⟨v, cert_congr e1 ?_, hn⟩
            -- the value of the first one, behind the second one
            unfold kindsOK at hk
            simp only [Bool.or_eq_true, Bool.and_eq_true, beq_iff_eq, decide_eq_true_eq, bne_iff_ne, ne_eq] at hk
            rcases hk with (hk | hk) | hk
            · subst hk; exact hv
            · obtain ⟨rfl, hk3⟩ := hk
              have hkj : kj = 2 := by
                unfold isVal at vj
                simp only [Bool.or_eq_true, beq_iff_eq, decide_eq_true_eq, not_or] at vj
                omega
              exact ⟨hC hkj, hv.2⟩
            · exact absurd hk.2 vj
        · rw [if_neg (by rw [wj]; exact hwj)] at h
          rw [if_neg hwj, if_pos (wi' undef), if_pos vi]
          exact ⟨v, cert_congr (ei a undef) hv, by rw [← cm]; exact h⟩
      · rw [if_neg hwi] at h
        have wi' : ∀ v, ¬ Region.wanted oi (yielded ops (a.put oj.dst v).tmps) = true := fun v => by rw [wi]; exact hwi
        by_cases hwj : Region.wanted oj (yielded ops a.tmps) = true
        · rw [if_pos (by rw [wj]; exact hwj)] at h
          rw [if_pos hwj]
          by_cases vj : isVal kj = true
          · rw [if_pos vj] at h ⊢
            obtain ⟨u, hu, h⟩ := h
            refine ⟨u, cert_congr (ej a undef).symm hu, ?_⟩
            rw [if_neg (wi' u), ← cm]; exact h
          · rw [if_neg vj] at h ⊢
            have h4 := wp_put (ops := ops) h1 h2 sj h
            refine wpMono (fun a' w' hh => ?_) h4
            obtain ⟨⟨hC, hn⟩, u, hu⟩ := hh
            have e2 : ¬ Region.wanted oi (yielded ops a'.tmps) = true := by rw [hu]; exact wi' u
            rw [if_neg e2]
            exact ⟨hC, hn⟩
        · rw [if_neg hwj]
          rw [if_neg (by rw [wj]; exact hwj)] at h
          rw [if_neg (wi' undef), ← cm]
          exact h

theorem RunD.pull (hs : Region.noSelect ops = true) {j kj : Nat} {p2 : List (Nat × Nat)} {K : Act → World → Prop} : ∀ (p1 : List (Nat × Nat)), (∀ x ∈ p1, commD ops x (j, kj) = true) → ∀ {a : Act} {w : World},
    RunD P C ops (p1 ++ (j, kj) :: p2) K a w → RunD P C ops ((j, kj) :: (p1 ++ p2)) K a w
  | [], _, _, _, h => h
  | (i, ki) :: p1, hc, a, w, h => by
    refine RunD.swap hs (hc (i, ki) (by simp)) ?_
    exact RunD.head_mono (fun a w h => RunD.pull hs p1 (fun x hx => hc x (by simp [hx])) h) h

theorem anc_listed {listed : Array Bool} (hcl : ∀ j oj, ops[j]? = some oj → listed.getD j false = true → ∀ e ∈ oj.after, Region.binds .any e = true → listed.getD e.on false = true) :
    ∀ (f x y : Nat) (oy : Oper), ops[y]? = some oy → (∀ e ∈ oy.after, Region.binds .any e = true → listed.getD e.on false = true) → anc ops f x y = true → listed.getD x false = true
  | 0, _, _, _, _, _, h => by simp [anc] at h
  | f + 1, x, y, oy, hy, hd, h => by
    simp only [anc, hy] at h
    obtain ⟨e, he, hb⟩ := Array.any_eq_true'.1 h
    simp only [Bool.and_eq_true, Bool.or_eq_true, beq_iff_eq] at hb
    obtain ⟨hbind, heq | hanc⟩ := hb
    · rw [← heq]; exact hd e he hbind
    · have hl := hd e he hbind
      have hlt : e.on < ops.size := by
        rcases Nat.lt_or_ge e.on ops.size with h1 | h1
        · exact h1
        · cases f with
          | zero => simp [anc] at hanc
          | succ f => simp [anc, Array.getElem?_eq_none h1] at hanc
      exact anc_listed hcl f x e.on ops[e.on] (by simp [hlt]) (fun e' he' hb' => hcl e.on _ (by simp [hlt]) hl e' he' hb') hanc

theorem pairs_mem : ∀ {p : List (Nat × Nat)}, pairsOK ops p = true → p.Pairwise fun x y => pairOK ops x y = true
  | [], _ => .nil
  | x :: r, h => by
    simp only [pairsOK, Bool.and_eq_true, List.all_eq_true] at h
    exact .cons h.1 (pairs_mem h.2)

theorem any_of_RunD {Q' : Exit → Act → World → Prop} {K : Act → World → Prop} (hK : ∀ a w, K a w → Q' .normal a w) (hs : Region.noSelect ops = true)
    (hin : ∀ (j : Nat) (oj : Oper), ops[j]? = some oj → ∀ e ∈ oj.after, Region.binds .any e = true → e.on < ops.size ∧ e.on ≠ j) :
    ∀ (m : Nat) (p : List (Nat × Nat)) (listed : Array Bool) (a : Act) (w : World), p.length = m → listed.size = ops.size → (p.Pairwise fun x y => pairOK ops x y = true) →
      (∀ i, i < ops.size → (listed.getD i true = false ↔ i ∈ p.map Prod.fst)) → (∀ x ∈ p, x.1 < ops.size) →
      (∀ j oj, ops[j]? = some oj → listed.getD j false = true → ∀ e ∈ oj.after, Region.binds .any e = true → listed.getD e.on false = true) →
      RunD P C ops p K a w → wpAny P .any ops (fun e a w => Q' e a w) m listed a w := by
  intro m
  induction m with
  | zero =>
    intro p listed a w hl hsz hp hset hlt hcl h
    have : p = [] := List.length_eq_zero_iff.1 hl
    subst this
    refine ⟨?_, hK _ _ h⟩
    apply List.eq_nil_iff_forall_not_mem.2
    intro i hi
    obtain ⟨h0, oi, hoi, _⟩ := mem_ready.1 hi
    have hi' : i < ops.size := (Array.getElem?_eq_some_iff.1 hoi).1
    have := (hset i hi').1 h0
    simp at this
  | succ m ih =>
    intro p listed a w hl hsz hp hset hlt hcl h
    constructor
    · intro h0
      exfalso
      match p, hl with
      | (i, ki) :: r, hl =>
        have hi := hlt (i, ki) (by simp)
        simp only at hi
        have hready : i ∈ Region.ready .any ops listed := by
          refine mem_ready.2 ⟨(hset i hi).2 (by simp), ops[i], by simp [hi], fun e he hb => ?_⟩
          obtain ⟨hen, hself⟩ := hin i ops[i] (by simp [hi]) e he hb
          have hnot : e.on ∉ ((i, ki) :: r).map Prod.fst := by
            intro hmem
            rcases List.mem_map.1 hmem with ⟨x, hx, hxe⟩
            rcases List.mem_cons.1 hx with rfl | hx
            · exact hself hxe.symm
            · have hpo := (List.pairwise_cons.1 hp).1 x hx
              simp only [pairOK, Bool.and_eq_true] at hpo
              obtain ⟨⟨_, hno⟩, _⟩ := hpo
              have hoi : ops[i]? = some ops[i] := by simp [hi]
              simp only [hoi] at hno
              have := Array.all_eq_true'.1 hno e he
              simp only [hb, Bool.not_true, Bool.false_or, bne_iff_ne, ne_eq] at this
              exact this hxe.symm
          have hne : listed.getD e.on true ≠ false := fun hh => hnot ((hset e.on hen).1 hh)
          have hes : e.on < listed.size := by rw [hsz]; exact hen
          simp [hes] at hne ⊢
          exact hne
        rw [h0] at hready
        cases hready
    · intro i hi
      obtain ⟨h0, oi, hoi, hdir⟩ := mem_ready.1 hi
      have hilt : i < ops.size := (Array.getElem?_eq_some_iff.1 hoi).1
      have hmem := (hset i hilt).1 h0
      obtain ⟨x, hx, hxi⟩ := List.mem_map.1 hmem
      obtain ⟨p1, p2, hpp⟩ := List.append_of_mem hx
      obtain ⟨i', ki⟩ := x
      simp only at hxi
      subst hxi
      subst hpp
      have hcomm : ∀ y ∈ p1, commD ops y (i', ki) = true := by
        intro y hy
        have hpo := (List.pairwise_append.1 hp).2.2 y hy (i', ki) (by simp)
        simp only [pairOK, Bool.and_eq_true, Bool.or_eq_true] at hpo
        rcases hpo.1.1 with h1 | h1
        · exact h1
        · exfalso
          have hyl := anc_listed hcl ops.size y.1 i' oi hoi hdir h1
          have hys : y.1 < ops.size := hlt y (by simp [hy])
          have hyu := (hset y.1 hys).2 (List.mem_map.2 ⟨y, by simp [hy], rfl⟩)
          have hys' : y.1 < listed.size := by rw [hsz]; exact hys
          simp [hys'] at hyl hyu
          rw [hyl] at hyu
          cases hyu
      have h1 := RunD.pull hs p1 hcomm h
      have hp' : (p1 ++ p2).Pairwise fun x y => pairOK ops x y = true :=
        hp.sublist (List.Sublist.append_left (List.sublist_cons_self _ _) _)
      have hne : ∀ y ∈ p1 ++ p2, y.1 ≠ i' := by
        intro y hy
        rcases List.mem_append.1 hy with hy | hy
        · have hpo := (List.pairwise_append.1 hp).2.2 y hy (i', ki) (by simp)
          simp only [pairOK, Bool.and_eq_true, bne_iff_ne, ne_eq] at hpo
          exact hpo.2
        · have hpo := (List.pairwise_cons.1 (List.pairwise_append.1 hp).2.1).1 y hy
          simp only [pairOK, Bool.and_eq_true, bne_iff_ne, ne_eq] at hpo
          exact fun e => hpo.2 e.symm
      have next : ∀ a w, RunD P C ops (p1 ++ p2) K a w → wpAny P .any ops (fun e a w => Q' e a w) m (listed.setIfInBounds i' true) a w := by
        intro a w hr
        refine ih (p1 ++ p2) (listed.setIfInBounds i' true) a w (by simp at hl ⊢; omega) (by simp [hsz]) hp' (fun k hk => ?_) (fun y hy => hlt y (by simp at hy ⊢; rcases hy with hy | hy <;> simp [hy])) (fun j oj hj hlj e he hb => ?_) hr
        · by_cases hki : i' = k
          · subst hki
            have hs' : i' < listed.size := by rw [hsz]; exact hk
            constructor
            · intro hh; simp [hs'] at hh
            · intro hh
              obtain ⟨y, hy, hye⟩ := List.mem_map.1 hh
              exact absurd hye (hne y hy)
          · rw [getD_set_ne true hki, hset k hk]
            simp only [List.map_append, List.map_cons, List.mem_append, List.mem_cons]
            constructor
            · rintro (h2 | h2 | h2)
              · exact .inl h2
              · exact absurd h2.symm hki
              · exact .inr h2
            · rintro (h2 | h2)
              · exact .inl h2
              · exact .inr (.inr h2)
        · by_cases hij : i' = j
          · subst hij
            have : oj = oi := Option.some.inj (hj.symm.trans hoi)
            subst this
            exact getD_set_true (hdir e he hb)
          · rw [getD_set_ne false hij] at hlj
            exact getD_set_true (hcl j oj hj hlj e he hb)
      simp only [RunD, hoi] at h1
      simp only [wpOp, hoi]
      by_cases hw : Region.wanted oi (yielded ops a.tmps) = true
      · rw [if_pos hw] at h1 ⊢
        refine .inl ?_
        by_cases hv : isVal ki = true
        · rw [if_pos hv] at h1
          obtain ⟨v, hv, h2⟩ := h1
          simp only [Oper.wp, cert_run hv, Oper.upon]
          exact next _ _ h2
        · rw [if_neg hv] at h1
          simp only [Oper.wp] at h1 ⊢
          generalize (execOp a.eval oi).run P w = x at h1 ⊢
          cases x with
          | ok nx w' =>
            cases nx <;> simp only [Oper.upon] at h1 ⊢
            case enter f args =>
              refine Calls.mono h1 fun e w'' he => ?_
              cases e <;> first | exact next _ _ he.2 | (obtain ⟨_, _, hf⟩ := he; exact hf.elim) | exact he.elim
            case row rw args => exact Rows.mono h1 fun v w'' hv => next _ _ hv.2
            all_goals exact next _ _ h1.2
          | halt x w' => cases x <;> simp only [Oper.upon] at h1 <;> exact h1.elim
      · rw [if_neg hw] at h1 ⊢
        exact next _ _ h1

theorem ldOp_sound {o : Oper} {K : Value → Prop} {env : Env} {a : Act} {w : World} (hst : St n ds env a) (h : ldOp P o env w K) : ∃ v, (execOp a.eval o).run P w = .ok (.value v) w ∧ K v := by
  obtain ⟨dst, op, ty, pos, after, guard⟩ := o
  cases op with
  | load t x =>
    have h1 := ev_sound hst h
    simp only [execOp]
    cases hc : a.eval x with
    | pointer p =>
      cases p with
      | none => rw [hc] at h1; exact h1.elim
      | some p =>
        rw [hc] at h1
        obtain ⟨v, hv, hk⟩ := ldW_run (P := P) h1
        exact ⟨v, by simp [Instr.loadAt, Instr.sureAddr, hv], hk⟩
    | _ => rw [hc] at h1; exact h1.elim
  | _ => exact h.elim

theorem ldOpG_sound {o : Oper} {K : Value → Prop} {env : Env} {a : Act} (hst : St n ds env a) (h : ldOpG P C o env K) : ∃ v, (∀ u, C u → (execOp a.eval o).run P u = .ok (.value v) u) ∧ K v := by
  obtain ⟨dst, op, ty, pos, after, guard⟩ := o
  cases op with
  | load t x =>
    have h1 := ev_sound hst h
    simp only [execOp]
    cases hc : a.eval x with
    | pointer p =>
      cases p with
      | none => rw [hc] at h1; exact h1.elim
      | some p =>
        rw [hc] at h1
        have key : ∃ v, (∀ u, C u → (loadVar t p).run P u = .ok v u) ∧ K v := by
          simp only [ldG] at h1
          cases hu : P.underlying t with
          | none => rw [hu] at h1; exact h1.elim
          | some d =>
            rw [hu] at h1
            have row : ∀ (hd : isAggD d = true), (match P.info? t with
                | some i => litN i.size fun sz => LdGN C p sz fun cs => K (.agg cs.toArray)
                | none => False) → ∃ v, (∀ u, C u → (loadVar t p).run P u = .ok v u) ∧ K v := by
              intro hd hrow
              cases hi : P.info? t with
              | none => rw [hi] at hrow; exact hrow.elim
              | some i =>
                rw [hi] at hrow
                obtain ⟨cs, hl, hcs, hk⟩ := (litN_eq hrow).out
                refine ⟨_, fun u hCu => ?_, hk⟩
                have hag := run_agg hu u
                rw [hd] at hag
                simp only [loadVar, Sem.run_bind, hag, Result.andThen_ok, if_true, run_siz hi, Sem.run_pure, loadCells]
                rw [run_loadCellsFrom i.size 0 cs #[] hl (fun j hj => by simpa using hcs u hCu j hj)]
                simp
            have one : ∀ (hd : isAggD d = false), LdG C p K → ∃ v, (∀ u, C u → (loadVar t p).run P u = .ok v u) ∧ K v := by
              intro hd h2
              obtain ⟨v, hcv, hk⟩ := h2.out
              refine ⟨v, fun u hCu => ?_, hk⟩
              have hag := run_agg hu u
              rw [hd] at hag
              simp [loadVar, Sem.run_bind, hag, hcv u hCu]
            cases d <;> first | exact row rfl h1 | exact one rfl h1
        obtain ⟨v, hv, hk⟩ := key
        exact ⟨v, fun u hCu => by simp [Instr.loadAt, Instr.sureAddr, hv u hCu], hk⟩
    | _ => rw [hc] at h1; exact h1.elim
  | _ => exact h.elim

theorem opsD_sound {K : Env → World → Prop} {K' : Act → World → Prop} (hQ : ∀ env a w, St n ds env a → K env w → K' a w) :
    ∀ (p : List (Nat × Nat)) (env : Env) (a : Act) (w : World), (C w ∨ ∀ x ∈ p, x.2 ≠ 1) → keepsC p = true → St n ds env a → opsD P C n ops.toList p env w K → RunD P C ops p K' a w
  | [], env, a, w, _, _, hst, h => hQ env a w hst h
  | (i, kd) :: r, env, a, w, hC, hkc, hst, h => by
    have ih := opsD_sound hQ r
    have hCr : C w ∨ ∀ x ∈ r, x.2 ≠ 1 := hC.imp id fun hh x hx => hh x (by simp [hx])
    have hkr : keepsC r = true := by
      simp only [keepsC] at hkc
      split at hkc
      · simp only [Bool.and_eq_true] at hkc; exact hkc.2
      · exact hkc
    simp only [opsD] at h
    cases ho : ops.toList[i]? with
    | none => rw [ho] at h; exact h.elim
    | some o =>
      rw [ho] at h
      have ho' : ops[i]? = some o := by simpa using ho
      simp only [RunD, ho']
      obtain ⟨env1, hst1, h1⟩ := grdW_sound hst h
      by_cases hw : Region.wanted o (yielded ops a.tmps) = true
      · rw [if_pos hw] at h1 ⊢
        have next : ∀ v w', (C w' ∨ ∀ x ∈ r, x.2 ≠ 1) → (dstW n o.dst v env1 fun env' => opsD P C n ops.toList r env' w' K) → RunD P C ops r K' (a.put o.dst v) w' := by
          intro v w' hC' hd
          obtain ⟨env2, hst2, hk2⟩ := dstW_sound hst1 hd
          exact ih env2 _ w' hC' hkr hst2 hk2
        match kd with
        | 0 => rw [if_pos (show isVal 0 = true from rfl)]; obtain ⟨v, hv, hk⟩ := opP_sound hst1 h1; exact ⟨v, hv, next v w hCr hk⟩
        | 1 =>
          rw [if_pos (show isVal 1 = true from rfl)]
          obtain ⟨v, hv, hk⟩ := ldOpG_sound hst1 h1
          have hCw : C w := hC.resolve_right fun hh => hh (i, 1) (by simp) rfl
          exact ⟨v, ⟨hCw, hv⟩, next v w hCr hk⟩
        | 2 =>
          rw [if_neg (by simp [isVal])]
          have h2 := opW_sound hst1 h1
          simp only [Oper.wp]
          generalize (execOp a.eval o).run P w = x at h2
          cases x with
          | halt x w' => exact h2.elim
          | ok nx w' =>
            cases nx with
            | value v => exact ⟨fun _ => h2.1, next v w' (.inl h2.1) h2.2⟩
            | skip => exact ⟨fun _ => h2.1, next undef w' (.inl h2.1) h2.2⟩
            | enter f args =>
              refine Calls.mono h2 ?_
              rintro e w'' ⟨v, rfl, hd⟩
              exact ⟨fun _ => hd.1, next v w'' (.inl hd.1) hd.2⟩
            | row rr args => exact Rows.mono h2 fun v w'' hd => ⟨fun _ => hd.1, next v w'' (.inl hd.1) hd.2⟩
            | _ => exact h2.elim
        | 3 =>
          rw [if_neg (by simp [isVal])]
          have hr1 : ∀ x ∈ r, x.2 ≠ 1 := by
            simp only [keepsC] at hkc
            simp only [beq_self_eq_true, if_true, Bool.and_eq_true, List.all_eq_true, bne_iff_ne, ne_eq] at hkc
            exact hkc.1
          have h2 := opW_sound hst1 h1
          simp only [Oper.wp]
          generalize (execOp a.eval o).run P w = x at h2
          cases x with
          | halt x w' => exact h2.elim
          | ok nx w' =>
            cases nx with
            | value v => exact ⟨fun hh => by simp at hh, next v w' (.inr hr1) h2⟩
            | skip => exact ⟨fun hh => by simp at hh, next undef w' (.inr hr1) h2⟩
            | enter f args =>
              refine Calls.mono h2 ?_
              rintro e w'' ⟨v, rfl, hd⟩
              exact ⟨fun hh => by simp at hh, next v w'' (.inr hr1) hd⟩
            | row rr args => exact Rows.mono h2 fun v w'' hd => ⟨fun hh => by simp at hh, next v w'' (.inr hr1) hd⟩
            | _ => exact h2.elim
        | k + 4 =>
          rw [if_pos (by simp [isVal])]
          obtain ⟨v, hv, hk⟩ := ldOp_sound hst1 h1
          exact ⟨v, hv, next v w hCr hk⟩
      · rw [if_neg hw] at h1 ⊢
        obtain ⟨env2, hst2, hk2⟩ := dstW_sound hst1 h1
        exact ih env2 _ w hCr hkr hst2 hk2

/-- **A region whose order is drawn**, by one plan. -/
theorem CW.draw {id : Nat} {Q : Exit → Env → World → Prop} {env : Env} {w : World} (plan : List (Nat × Nat)) (hm : P.follows .mixedOrders = true) (hB : planOK ops plan = true) (C : World → Prop)
    (h : ∀ w', w'.heap = w.heap → w'.tape = w.tape → w'.os = w.os → w'.output = w.output → C w' ∧ opsD P C n ops.toList plan env w' fun env' w' => Q .normal env' w') :
    CW P n (.region id ops true) Q env w := by
  refine .mk fun ds a hst => ?_
  simp only [planOK, Bool.and_eq_true] at hB
  obtain ⟨⟨⟨⟨⟨hp, hl⟩, hall⟩, hs⟩, hin⟩, hkc⟩ := hB
  have hl' : plan.length = ops.size := by simpa using hl
  have hd := h { w with drawn := w.drawn + 1 } rfl rfl rfl rfl
  have hrun := opsD_sound (P := P) (C := C) (n := n) (ds := ds) (ops := ops) (K := fun env' w' => Q .normal env' w') (K' := fun a' w' => ∃ env', St n ds env' a' ∧ Q .normal env' w')
    (fun env a w h1 h2 => ⟨env, h1, h2⟩) plan env a { w with drawn := w.drawn + 1 } (.inl hd.1) hkc hst hd.2
  refine Go.wp_mono (Q := fun e a' w' => e = .normal ∧ ∃ env', St n ds env' a' ∧ Q .normal env' w') ?_ (fun e a' w' ⟨he, env', h1, h2⟩ => ⟨env', h1, by rw [he]; exact h2⟩)
  refine wp_region_any hm ?_
  have hpw := pairs_mem hp
  have hlt : ∀ x ∈ plan, x.1 < ops.size := by
    intro x hx
    rcases Nat.lt_or_ge x.1 ops.size with h1 | h1
    · exact h1
    · exfalso
      -- plan has as many rows as there are operations, and each of them
      have hsub : (List.range ops.size) ⊆ (plan.map Prod.fst).erase x.1 := by
        intro i hi
        have hi' := List.mem_range.1 hi
        have := List.all_eq_true.1 hall i hi
        obtain ⟨y, hy, hyi⟩ := List.any_eq_true.1 this
        have hyi' : y.1 = i := by simpa using hyi
        exact (List.mem_erase_of_ne (by omega)).2 (List.mem_map.2 ⟨y, hy, hyi'⟩)
      have hle := (List.nodup_range (n := ops.size)).length_le_of_subset hsub
      rw [List.length_erase_of_mem (List.mem_map.2 ⟨x, hx, rfl⟩)] at hle
      simp only [List.length_range, List.length_map, hl'] at hle
      have : 0 < plan.length := List.length_pos_of_mem hx
      omega
  have := any_of_RunD (P := P) (C := C) (ops := ops) (Q' := fun e a' w' => e = .normal ∧ ∃ env', St n ds env' a' ∧ Q .normal env' w') (K := fun a' w' => ∃ env', St n ds env' a' ∧ Q .normal env' w')
    (fun a w h => ⟨rfl, h⟩) hs (fun j oj hj e he hb => by
      have hjlt : j < ops.size := (Array.getElem?_eq_some_iff.1 hj).1
      have h1 := List.all_eq_true.1 hin j (List.mem_range.2 hjlt)
      simp only [hj] at h1
      have h2 := Array.all_eq_true'.1 h1 e he
      simpa [hb] using h2) ops.size plan (Array.replicate ops.size false) a { w with drawn := w.drawn + 1 } hl' (by simp) hpw (fun i hi => by
        have h1 := List.all_eq_true.1 hall i (List.mem_range.2 hi)
        obtain ⟨y, hy, hyi⟩ := List.any_eq_true.1 h1
        have hyi' : y.1 = i := by simpa using hyi
        exact ⟨fun _ => List.mem_map.2 ⟨y, hy, hyi'⟩, fun _ => by simp [hi]⟩) hlt (fun j oj hj hlj => by
        have hjlt : j < ops.size := (Array.getElem?_eq_some_iff.1 hj).1
        simp [hjlt] at hlj) hrun
  exact this
end
end Go.Ev
