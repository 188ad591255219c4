/- Regions whose order is drawn, in which loud operations may come in several orders: a tree of plans. Conditions: none. -/
import Derived.Test.YtfhfpklefgjeoaaEvQ
namespace Go.Ev
open Go

inductive PT where
  | nil
  | op (i : Nat) (t : PT)
  | fork (t u : PT)

def kOf (kd : List Nat) (i : Nat) : Nat := kd.getD i 0
def opsT (P : Program) (C : World → Prop) (n : Nat) (all : List Oper) (kd : List Nat) : PT → Env → World → (Env → World → Prop) → Prop
  | .nil, env, w, K => K env w
  | .fork t u, env, w, K => opsT P C n all kd t env w K ∧ opsT P C n all kd u env w K
  | .op i t, env, w, K => match all[i]? with
    | none => False
    | some o => grdW all o.guard env
      (fun env => match kOf kd i with
        | 0 => opP P o env fun v => dstW n o.dst v env fun env' => opsT P C n all kd t env' w K
        | 1 => ldOpG P C o env fun v => dstW n o.dst v env fun env' => opsT P C n all kd t env' w K
        | 2 => opW P o env w fun v w' => C w' ∧ dstW n o.dst v env fun env' => opsT P C n all kd t env' w' K
        | 3 => opW P o env w fun v w' => dstW n o.dst v env fun env' => opsT P C n all kd t env' w' K
        | _ => ldOp P o env w fun v => dstW n o.dst v env fun env' => opsT P C n all kd t env' w K)
      (fun env => dstW n o.dst undef env fun env' => opsT P C n all kd t env' w K)
def RunT (P : Program) (C : World → Prop) (ops : Array Oper) (kd : List Nat) : PT → (Act → World → Prop) → Act → World → Prop
  | .nil, K, a, w => K a w
  | .fork t u, K, a, w => RunT P C ops kd t K a w ∧ RunT P C ops kd u K a w
  | .op i t, K, a, w => RunD P C ops [(i, kOf kd i)] (fun a w => RunT P C ops kd t K a w) a w

def nodep (ops : Array Oper) (i j : Nat) : Bool := match ops[i]? with
  | some o => o.after.all fun e => !(Region.binds .any e) || e.on != j
  | none => false
def pairL (ops : Array Oper) (kd : List Nat) (i j : Nat) : Bool := commD ops (i, kOf kd i) (j, kOf kd j) || anc ops ops.size i j || (!isVal (kOf kd i) && !isVal (kOf kd j))
def PairT (ops : Array Oper) (kd : List Nat) (U : Nat → Bool) (i j : Nat) : Prop :=
  nodep ops i j = true ∧ (pairL ops kd i j = true ∨ (isVal (kOf kd i) = false ∧ ∃ z, U z = true ∧ z ≠ i ∧ isVal (kOf kd z) = false ∧ anc ops ops.size z j = true))
def GoodT (ops : Array Oper) (kd : List Nat) : PT → (Nat → Bool) → Nat → Prop
  | .nil, U, m => m = 0 ∧ ∀ i, U i = false
  | .fork t u, U, m => GoodT ops kd t U m ∧ GoodT ops kd u U m
  | .op i t, U, m => ∃ m', m = m' + 1 ∧ U i = true ∧ i < ops.size ∧ (∀ j, U j = true → j ≠ i → PairT ops kd U i j) ∧ GoodT ops kd t (fun x => U x && x != i) m'
def del (i : Nat) : PT → PT
  | .nil => .nil
  | .fork t u => .fork (del i t) (del i u)
  | .op j t => if j = i then t else .op j (del i t)
def sel1 (kd : List Nat) (i : Nat) : PT → Option PT
  | .nil => none
  | .fork t u => match sel1 kd i t with
    | some r => some r
    | none => sel1 kd i u
  | .op j t => if j = i then some t else if isVal (kOf kd j) then (sel1 kd i t).map (.op j) else none
def covT (ops : Array Oper) (kd : List Nat) : Nat → PT → List Nat → Bool
  | 0, _, L => L.isEmpty
  | f + 1, t, L => L.all fun i => (L.any fun j => anc ops ops.size j i) || (match sel1 kd i t with
    | some r => covT ops kd f r (L.filter (· != i))
    | none => false)

section
variable {P : Program} {C : World → Prop} {n : Nat} {ds : List Deferred} {ops : Array Oper} {kd : List Nat}

theorem sel1_del {i j : Nat} (hij : j ≠ i) (hi : isVal (kOf kd i) = true) : ∀ t, sel1 kd j (del i t) = (sel1 kd j t).map (del i)
  | .nil => rfl
  | .fork t u => by
    simp only [del, sel1, sel1_del hij hi t, sel1_del hij hi u]
    cases sel1 kd j t <;> rfl
  | .op x t => by
    simp only [del]
    by_cases hx : x = i
    · subst hx
      rw [if_pos rfl]
      simp only [sel1]
      rw [if_neg (fun h => hij h.symm), if_pos hi]
      cases sel1 kd j t with
      | none => rfl
      | some r => simp [del]
    · rw [if_neg hx]
      simp only [sel1]
      by_cases hxj : x = j
      · rw [if_pos hxj, if_pos hxj]; rfl
      · rw [if_neg hxj, if_neg hxj]
        by_cases hv : isVal (kOf kd x) = true
        · rw [if_pos hv, if_pos hv, sel1_del hij hi t]
          cases sel1 kd j t with
          | none => rfl
          | some r => simp [del, hx]
        · rw [if_neg hv, if_neg hv]; rfl
theorem covT_del {i : Nat} (hi : isVal (kOf kd i) = true) : ∀ (f : Nat) (t : PT) (L : List Nat), i ∉ L → covT ops kd f t L = true → covT ops kd f (del i t) L = true
  | 0, _, _, _, h => h
  | f + 1, t, L, hL, h => by
    simp only [covT, List.all_eq_true] at h ⊢
    intro j hj
    have := h j hj
    rw [sel1_del (i := i) (j := j) (fun e => hL (by rw [← e]; exact hj)) hi]
    simp only [Bool.or_eq_true] at this ⊢
    rcases this with h1 | h1
    · exact .inl h1
    · right
      cases hs : sel1 kd j t with
      | none => rw [hs] at h1; cases h1
      | some r =>
        rw [hs] at h1
        exact covT_del hi f r _ (fun hm => hL (List.mem_filter.1 hm).1) h1

theorem RunD.mono1 {i k : Nat} {K K' : Act → World → Prop} (hk : ∀ a w, K a w → K' a w) {a : Act} {w : World} (h : RunD P C ops [(i, k)] K a w) : RunD P C ops [(i, k)] K' a w := by
  simp only [RunD] at h ⊢
  cases ho : ops[i]? with
  | none => rw [ho] at h; exact h
  | some o =>
    rw [ho] at h
    simp only at h ⊢
    split at h
    · rename_i hw
      rw [if_pos hw]
      split at h
      · rename_i hv
        rw [if_pos hv]
        obtain ⟨v, h1, h2⟩ := h
        exact ⟨v, h1, hk _ _ h2⟩
      · rename_i hv
        rw [if_neg hv]
        exact wpMono (fun a' w' h => ⟨h.1, hk _ _ h.2⟩) h
    · rename_i hw
      rw [if_neg hw]
      exact hk _ _ h
theorem RunD.swap1 (hs : Region.noSelect ops = true) {i j ki kj : Nat} {K : Act → World → Prop} {a : Act} {w : World} (hc : commD ops (j, kj) (i, ki) = true)
    (h : RunD P C ops [(j, kj)] (fun a w => RunD P C ops [(i, ki)] K a w) a w) : RunD P C ops [(i, ki)] (fun a w => RunD P C ops [(j, kj)] K a w) a w := by
  have h2 : RunD P C ops ([(j, kj)] ++ (i, ki) :: []) K a w := by
    simpa only [RunD, List.cons_append, List.nil_append] using h
  have h3 := RunD.pull hs [(j, kj)] (fun x hx => by rw [List.mem_singleton.1 hx]; exact hc) h2
  simpa only [RunD, List.cons_append, List.nil_append] using h3

theorem sub_comm (U : Nat → Bool) (i j : Nat) : (fun x => (U x && x != i) && x != j) = (fun x => (U x && x != j) && x != i) := by
  funext x; exact Bool.and_right_comm _ _ _
/-- A value that may come now: to the front. -/
theorem pullV (hs : Region.noSelect ops = true) {i : Nat} (hi : isVal (kOf kd i) = true) : ∀ (t : PT) (U : Nat → Bool) (m : Nat), (∀ j, U j = true → anc ops ops.size j i = false) → U i = true → GoodT ops kd t U (m + 1) →
    (∀ K a w, RunT P C ops kd t K a w → RunT P C ops kd (.op i (del i t)) K a w) ∧ GoodT ops kd (del i t) (fun x => U x && x != i) m
  | .nil, U, m, _, hU, hg => by have := hg.2 i; rw [hU] at this; cases this
  | .fork t u, U, m, ha, hU, hg => by
    obtain ⟨h1, g1⟩ := pullV hs hi t U m ha hU hg.1
    obtain ⟨h2, g2⟩ := pullV hs hi u U m ha hU hg.2
    refine ⟨fun K a w h => ?_, g1, g2⟩
    have r1 := h1 K a w h.1
    have r2 := h2 K a w h.2
    simp only [RunT, RunD, del] at r1 r2 ⊢
    cases ho : ops[i]? with
    | none => rw [ho] at r1; exact r1.elim
    | some o =>
      rw [ho] at r1 r2
      simp only at r1 r2 ⊢
      by_cases hw : Region.wanted o (yielded ops a.tmps) = true
      · rw [if_pos hw] at r1 r2 ⊢
        rw [if_pos hi] at r1 r2 ⊢
        obtain ⟨v, c1, r1⟩ := r1
        obtain ⟨v', c2, r2⟩ := r2
        have e1 := cert_run c1
        rw [cert_run c2] at e1
        simp only [Result.ok.injEq, Next.value.injEq, and_true] at e1
        subst e1
        exact ⟨_, c1, r1, r2⟩
      · rw [if_neg hw] at r1 r2 ⊢
        exact ⟨r1, r2⟩
  | .op j t, U, m, ha, hU, hg => by
    obtain ⟨m', hm, hj, hlt, hp, hg'⟩ := hg
    obtain rfl : m = m' := by omega
    simp only [del]
    by_cases hji : j = i
    · subst hji
      rw [if_pos rfl]
      exact ⟨fun K a w h => h, hg'⟩
    · rw [if_neg hji]
      have hpo := hp i hU (fun e => hji e.symm)
      have hc : commD ops (j, kOf kd j) (i, kOf kd i) = true := by
        rcases hpo.2 with h1 | ⟨_, z, hz, _, _, hza⟩
        · simp only [pairL, Bool.or_eq_true] at h1
          rcases h1 with (h1 | h1) | h1
          · exact h1
          · rw [ha j hj] at h1; cases h1
          · rw [hi] at h1; simp at h1
        · rw [ha z hz] at hza; cases hza
      cases m with
      | zero =>
        exfalso
        have key : ∀ (t : PT) (U : Nat → Bool), GoodT ops kd t U 0 → ∀ i, U i = false := by
          intro t
          induction t with
          | nil => exact fun U h => h.2
          | op i t _ => rintro U ⟨m', h, _⟩; omega
          | fork t u h1 _ => exact fun U h => h1 U h.1
        have := key t _ hg' i
        simp [hU] at this
        exact hji this.symm
      | succ m =>
        obtain ⟨h1, g1⟩ := pullV hs hi t _ m (fun x hx => ha x (by simp only [Bool.and_eq_true] at hx; exact hx.1)) (by simp [hU]; exact fun e => hji e.symm) hg'
        refine ⟨fun K a w h => ?_, m, rfl, by simp [hj]; exact hji, hlt, fun x hx hne => ?_, ?_⟩
        rotate_left
        · have hq := hp x (by simp only [Bool.and_eq_true] at hx; exact hx.1) hne
          refine ⟨hq.1, hq.2.imp id ?_⟩
          rintro ⟨h1, z, hz, h2, h3, h4⟩
          have hzi : z ≠ i := by
            rintro rfl
            rw [hi] at h3; cases h3
          exact ⟨h1, z, by simp [hz, hzi], h2, h3, h4⟩
        rotate_left
        · simp only [RunT] at h ⊢
          exact RunD.swap1 hs hc (RunD.mono1 (fun a w h => h1 K a w h) h)
        · rw [sub_comm]; exact g1
/-- A loud one that may come now: to the front of the plan that has it first. -/
theorem pullL (hs : Region.noSelect ops = true) {i : Nat} (hi : isVal (kOf kd i) = false) : ∀ (t r : PT) (U : Nat → Bool) (m : Nat), sel1 kd i t = some r → (∀ j, U j = true → anc ops ops.size j i = false) → U i = true → GoodT ops kd t U (m + 1) →
    (∀ K a w, RunT P C ops kd t K a w → RunT P C ops kd (.op i r) K a w) ∧ GoodT ops kd r (fun x => U x && x != i) m
  | .nil, r, U, m, hr, _, _, _ => by cases hr
  | .fork t u, r, U, m, hr, ha, hU, hg => by
    simp only [sel1] at hr
    split at hr
    · rename_i r' ht
      obtain rfl : r' = r := by simpa using hr
      obtain ⟨h1, g1⟩ := pullL hs hi t _ U m ht ha hU hg.1
      exact ⟨fun K a w h => h1 K a w h.1, g1⟩
    · obtain ⟨h1, g1⟩ := pullL hs hi u r U m hr ha hU hg.2
      exact ⟨fun K a w h => h1 K a w h.2, g1⟩
  | .op j t, r, U, m, hr, ha, hU, hg => by
    obtain ⟨m', hm, hj, hlt, hp, hg'⟩ := hg
    obtain rfl : m = m' := by omega
    simp only [sel1] at hr
    by_cases hji : j = i
    · subst hji
      rw [if_pos rfl] at hr
      obtain rfl : t = r := by simpa using hr
      exact ⟨fun K a w h => h, hg'⟩
    · rw [if_neg hji] at hr
      split at hr
      · rename_i hv
        cases hst : sel1 kd i t with
        | none => rw [hst] at hr; cases hr
        | some r' =>
          rw [hst] at hr
          obtain rfl : .op j r' = r := by simpa using hr
          have hpo := hp i hU (fun e => hji e.symm)
          have hc : commD ops (j, kOf kd j) (i, kOf kd i) = true := by
            rcases hpo.2 with h1 | ⟨h1, _⟩
            · simp only [pairL, Bool.or_eq_true] at h1
              rcases h1 with (h1 | h1) | h1
              · exact h1
              · rw [ha j hj] at h1; cases h1
              · rw [hv] at h1; simp at h1
            · rw [hv] at h1; cases h1
          cases m with
          | zero =>
            exfalso
            have key : ∀ (t : PT) (U : Nat → Bool), GoodT ops kd t U 0 → ∀ i, U i = false := by
              intro t
              induction t with
              | nil => exact fun U h => h.2
              | op i t _ => rintro U ⟨m', h, _⟩; omega
              | fork t u h1 _ => exact fun U h => h1 U h.1
            have := key t _ hg' i
            simp [hU] at this
            exact hji this.symm
          | succ m =>
            obtain ⟨h1, g1⟩ := pullL hs hi t r' _ m hst (fun x hx => ha x (by simp only [Bool.and_eq_true] at hx; exact hx.1)) (by simp [hU]; exact fun e => hji e.symm) hg'
            refine ⟨fun K a w h => ?_, m, rfl, by simp [hj]; exact hji, hlt, fun x hx hne => ?_, ?_⟩
            rotate_left
            · have hq := hp x (by simp only [Bool.and_eq_true] at hx; exact hx.1) hne
              refine ⟨hq.1, hq.2.imp id ?_⟩
              rintro ⟨h1, _⟩
              rw [hv] at h1; cases h1
            rotate_left
            · simp only [RunT] at h ⊢
              exact RunD.swap1 hs hc (RunD.mono1 (fun a w h => h1 K a w h) h)
            · rw [sub_comm]; exact g1
      · cases hr

theorem good_zero : ∀ (t : PT) (U : Nat → Bool), GoodT ops kd t U 0 → (∀ i, U i = false) ∧ ∀ K a w, RunT P C ops kd t K a w → K a w
  | .nil, U, h => ⟨h.2, fun K a w h => h⟩
  | .op i t, U, ⟨m', h, _⟩ => by omega
  | .fork t u, U, h => ⟨(good_zero t U h.1).1, fun K a w hr => (good_zero t U h.1).2 K a w hr.1⟩
theorem good_first : ∀ (t : PT) (U : Nat → Bool) (m : Nat), GoodT ops kd t U (m + 1) → ∃ i, U i = true ∧ i < ops.size ∧ ∀ j, U j = true → j ≠ i → nodep ops i j = true
  | .nil, U, m, h => by have := h.1; omega
  | .op i t, U, m, ⟨m', _, h1, h2, h3, _⟩ => ⟨i, h1, h2, fun j hj hne => (h3 j hj hne).1⟩
  | .fork t u, U, m, h => good_first t U m h.1

theorem any_of_RunT {Q' : Exit → Act → World → Prop} {K : Act → World → Prop} (hK : ∀ a w, K a w → Q' .normal a w) (hs : Region.noSelect ops = true)
    (hin : ∀ (j : Nat) (oj : Oper), ops[j]? = some oj → ∀ e ∈ oj.after, Region.binds .any e = true → e.on < ops.size ∧ e.on ≠ j) :
    ∀ (m f : Nat) (t : PT) (L : List Nat) (listed : Array Bool) (a : Act) (w : World), listed.size = ops.size → GoodT ops kd t (fun i => !listed.getD i true) m →
      (∀ i, i ∈ L ↔ (listed.getD i true = false ∧ isVal (kOf kd i) = false)) → covT ops kd f t L = true →
      (∀ j oj, ops[j]? = some oj → listed.getD j false = true → ∀ e ∈ oj.after, Region.binds .any e = true → listed.getD e.on false = true) →
      RunT P C ops kd t K a w → wpAny P .any ops (fun e a w => Q' e a w) m listed a w := by
  intro m
  induction m with
  | zero =>
    intro f t L listed a w hsz hg hL hcov hcl h
    obtain ⟨hU, hk⟩ := good_zero (P := P) (C := C) t _ hg
    refine ⟨?_, hK _ _ (hk K a w h)⟩
    apply List.eq_nil_iff_forall_not_mem.2
    intro i hi
    obtain ⟨h0, _⟩ := mem_ready.1 hi
    have := hU i
    simp [h0] at this
  | succ m ih =>
    intro f t L listed a w hsz hg hL hcov hcl h
    constructor
    · intro h0
      exfalso
      obtain ⟨i, hUi, hi, hp⟩ := good_first t _ m hg
      have hready : i ∈ Region.ready .any ops listed := by
        refine mem_ready.2 ⟨by simpa using hUi, ops[i], by simp [hi], fun e he hb => ?_⟩
        obtain ⟨hen, hself⟩ := hin i ops[i] (by simp [hi]) e he hb
        have hne : listed.getD e.on true ≠ false := by
          intro hh
          have hpo := hp e.on (by simp [hh]) hself
          have hoi : ops[i]? = some ops[i] := by simp [hi]
          simp only [nodep, hoi] at hpo
          have := Array.all_eq_true'.1 hpo e he
          simp [hb] at this
        have hes : e.on < listed.size := by rw [hsz]; exact hen
        simp [hes] at hne ⊢
        exact hne
      rw [h0] at hready
      cases hready
    · intro i hi
      obtain ⟨h0, oi, hoi, hdir⟩ := mem_ready.1 hi
      have hilt : i < ops.size := (Array.getElem?_eq_some_iff.1 hoi).1
      have hanc : ∀ j, (!listed.getD j true) = true → anc ops ops.size j i = false := by
        intro j hj
        cases hb : anc ops ops.size j i with
        | false => rfl
        | true =>
          exfalso
          have hyl := anc_listed hcl ops.size j i oi hoi hdir hb
          have hj' : listed.getD j true = false := by simpa using hj
          rcases Nat.lt_or_ge j listed.size with hlt | hge
          · simp [hlt] at hyl hj'
            rw [hyl] at hj'; cases hj'
          · simp [hge] at hyl
      have hU' : (fun x => (!listed.getD x true) && x != i) = fun x => !(listed.setIfInBounds i true).getD x true := by
        funext x
        have hs' : i < listed.size := by rw [hsz]; exact hilt
        by_cases hx : x = i
        · subst hx; simp [hs']
        · rw [getD_set_ne true (fun e => hx e.symm)]; simp [hx]
      have next : ∀ (f' : Nat) (t' : PT) (L' : List Nat), GoodT ops kd t' (fun x => (!listed.getD x true) && x != i) m → (∀ j, j ∈ L' ↔ (j ∈ L ∧ j ≠ i)) → covT ops kd f' t' L' = true → ∀ a w, RunT P C ops kd t' K a w → wpAny P .any ops (fun e a w => Q' e a w) m (listed.setIfInBounds i true) a w := by
        intro f' t' L' hg' hL' hc' a w hr
        rw [hU'] at hg'
        refine ih f' t' L' (listed.setIfInBounds i true) a w (by simp [hsz]) hg' (fun j => ?_) hc' (fun j oj hj hlj e he hb => ?_) hr
        · rw [hL', hL]
          have := congrFun hU' j
          constructor
          · rintro ⟨⟨h1, h2⟩, h3⟩
            have h4 : (!(listed.setIfInBounds i true).getD j true) = true := by rw [← this]; rw [h1]; simp [h3]
            exact ⟨by simpa using h4, h2⟩
          · rintro ⟨h1, h2⟩
            have h4 : ((!listed.getD j true) && j != i) = true := by rw [this, h1]; rfl
            simp only [Bool.and_eq_true, Bool.not_eq_true', bne_iff_ne, ne_eq] at h4
            exact ⟨⟨h4.1, h2⟩, h4.2⟩
        · by_cases hij : i = j
          · subst hij
            have : oj = oi := Option.some.inj (hj.symm.trans hoi)
            subst this
            exact getD_set_true (hdir e he hb)
          · rw [getD_set_ne false hij] at hlj
            exact getD_set_true (hcl j oj hj hlj e he hb)
      have go : ∀ (f' : Nat) (t' : PT) (L' : List Nat), GoodT ops kd t' (fun x => (!listed.getD x true) && x != i) m → (∀ j, j ∈ L' ↔ (j ∈ L ∧ j ≠ i)) → covT ops kd f' t' L' = true → RunT P C ops kd (.op i t') K a w → wpOp P ops (fun e a w => Q' e a w) i (wpAny P .any ops (fun e a w => Q' e a w) m (listed.setIfInBounds i true)) a w := by
        intro f' t' L' hg' hL' hc' h1
        have next := next f' t' L' hg' hL' hc'
        simp only [RunT, RunD, hoi] at h1
        simp only [wpOp, hoi]
        by_cases hw : Region.wanted oi (yielded ops a.tmps) = true
        · rw [if_pos hw] at h1 ⊢
          refine .inl ?_
          by_cases hv : isVal (kOf kd i) = true
          · rw [if_pos hv] at h1
            obtain ⟨v, hv, h2⟩ := h1
            simp only [Oper.wp, cert_run hv, Oper.upon]
            exact next _ _ h2
          · rw [if_neg hv] at h1
            simp only [Oper.wp] at h1 ⊢
            generalize (execOp a.eval oi).run P w = x at h1 ⊢
            cases x with
            | ok nx w' =>
              cases nx <;> simp only [Oper.upon] at h1 ⊢
              case enter f args =>
                refine Calls.mono h1 fun e w'' he => ?_
                cases e <;> first | exact next _ _ he.2 | (obtain ⟨_, _, hf⟩ := he; exact hf.elim) | exact he.elim
              case row rw args => exact Rows.mono h1 fun v w'' hv => next _ _ hv.2
              all_goals exact next _ _ h1.2
            | halt x w' => cases x <;> simp only [Oper.upon] at h1 <;> exact h1.elim
        · rw [if_neg hw] at h1 ⊢
          exact next _ _ h1
      cases hv : isVal (kOf kd i) with
      | true =>
        obtain ⟨h1, g1⟩ := pullV (P := P) (C := C) hs hv t _ m hanc (by simp only [h0]; rfl) hg
        have hnl : i ∉ L := fun hm => by have := ((hL i).1 hm).2; rw [hv] at this; cases this
        exact go f (del i t) L g1 (fun j => ⟨fun hj => ⟨hj, fun e => hnl (e ▸ hj)⟩, fun hj => hj.1⟩) (covT_del hv f t L hnl hcov) (h1 K a w h)
      | false =>
        have hml : i ∈ L := (hL i).2 ⟨h0, hv⟩
        cases f with
        | zero =>
          simp only [covT, List.isEmpty_iff] at hcov
          rw [hcov] at hml; cases hml
        | succ f =>
          simp only [covT, List.all_eq_true] at hcov
          have := hcov i hml
          simp only [Bool.or_eq_true] at this
          rcases this with h1 | h1
          · exfalso
            obtain ⟨j, hj, hja⟩ := List.any_eq_true.1 h1
            rw [hanc j (by rw [((hL j).1 hj).1]; rfl)] at hja
            cases hja
          · cases hr : sel1 kd i t with
            | none => rw [hr] at h1; cases h1
            | some r =>
              rw [hr] at h1
              obtain ⟨h2, g2⟩ := pullL (P := P) (C := C) hs hv t r _ m hr hanc (by simp only [h0]; rfl) hg
              exact go f r (L.filter (· != i)) g2 (fun j => by rw [List.mem_filter]; simp) h1 (h2 K a w h)

theorem opsT_sound {K : Env → World → Prop} {K' : Act → World → Prop} (hQ : ∀ env a w, St n ds env a → K env w → K' a w) (h3 : kd.all (fun k => k != 3) = true) :
    ∀ (t : PT) (env : Env) (a : Act) (w : World), C w → St n ds env a → opsT P C n ops.toList kd t env w K → RunT P C ops kd t K' a w
  | .nil, env, a, w, _, hst, h => hQ env a w hst h
  | .fork t u, env, a, w, hC, hst, h => ⟨opsT_sound hQ h3 t env a w hC hst h.1, opsT_sound hQ h3 u env a w hC hst h.2⟩
  | .op i t, env, a, w, hC, hst, h => by
    have ih := opsT_sound hQ h3 t
    simp only [opsT] at h
    simp only [RunT]
    cases ho : ops.toList[i]? with
    | none => rw [ho] at h; exact h.elim
    | some o =>
      rw [ho] at h
      have ho' : ops[i]? = some o := by simpa using ho
      simp only [RunD, ho']
      obtain ⟨env1, hst1, h1⟩ := grdW_sound hst h
      by_cases hw : Region.wanted o (yielded ops a.tmps) = true
      · rw [if_pos hw] at h1 ⊢
        have next : ∀ v w', C w' → (dstW n o.dst v env1 fun env' => opsT P C n ops.toList kd t env' w' K) → RunT P C ops kd t K' (a.put o.dst v) w' := by
          intro v w' hC' hd
          obtain ⟨env2, hst2, hk2⟩ := dstW_sound hst1 hd
          exact ih env2 _ w' hC' hst2 hk2
        generalize hk : kOf kd i = k at h1
        match k with
        | 0 => rw [if_pos (show isVal 0 = true from rfl)]; obtain ⟨v, hv, hk⟩ := opP_sound hst1 h1; exact ⟨v, hv, next v w hC hk⟩
        | 1 =>
          rw [if_pos (show isVal 1 = true from rfl)]
          obtain ⟨v, hv, hk⟩ := ldOpG_sound hst1 h1
          exact ⟨v, ⟨hC, hv⟩, next v w hC hk⟩
        | 2 =>
          rw [if_neg (by simp [isVal])]
          have h2 := opW_sound hst1 h1
          simp only [Oper.wp]
          generalize (execOp a.eval o).run P w = x at h2
          cases x with
          | halt x w' => exact h2.elim
          | ok nx w' =>
            cases nx with
            | value v => exact ⟨fun _ => h2.1, next v w' h2.1 h2.2⟩
            | skip => exact ⟨fun _ => h2.1, next undef w' h2.1 h2.2⟩
            | enter f args =>
              refine Calls.mono h2 ?_
              rintro e w'' ⟨v, rfl, hd⟩
              exact ⟨fun _ => hd.1, next v w'' hd.1 hd.2⟩
            | row rr args => exact Rows.mono h2 fun v w'' hd => ⟨fun _ => hd.1, next v w'' hd.1 hd.2⟩
            | _ => exact h2.elim
        | 3 =>
          exfalso
          unfold kOf at hk
          rw [List.getD_eq_getElem?_getD] at hk
          cases hx : kd[i]? with
          | none => rw [hx] at hk; cases hk
          | some y =>
            rw [hx] at hk
            obtain rfl : y = 3 := hk
            have := List.all_eq_true.1 h3 3 (List.mem_of_getElem? hx)
            simp at this
        | k + 4 =>
          rw [if_pos (by simp [isVal])]
          obtain ⟨v, hv, hk⟩ := ldOp_sound hst1 h1
          exact ⟨v, hv, next v w hC hk⟩
      · rw [if_neg hw] at h1 ⊢
        obtain ⟨env2, hst2, hk2⟩ := dstW_sound hst1 h1
        exact ih env2 _ w hC hst2 hk2

def lenT : PT → Nat
  | .nil => 0
  | .op _ t => lenT t + 1
  | .fork t _ => lenT t
def goodTB (ops : Array Oper) (kd : List Nat) : PT → List Nat → Bool
  | .nil, U => U.isEmpty
  | .fork t u, U => goodTB ops kd t U && goodTB ops kd u U && lenT t == lenT u
  | .op i t, U => U.contains i && decide (i < ops.size) && U.all (fun j => j == i || (nodep ops i j && (pairL ops kd i j || (!isVal (kOf kd i) && U.any (fun z => z != i && !isVal (kOf kd z) && anc ops ops.size z j))))) && goodTB ops kd t (U.filter (· != i))
theorem goodTBspec : ∀ (t : PT) (U : List Nat), goodTB ops kd t U = true → GoodT ops kd t (fun i => U.contains i) (lenT t)
  | .nil, U, h => by
    simp only [goodTB, List.isEmpty_iff] at h
    subst h
    exact ⟨rfl, fun i => rfl⟩
  | .fork t u, U, h => by
    simp only [goodTB, Bool.and_eq_true, beq_iff_eq] at h
    have h2 := goodTBspec u U h.1.2
    rw [← h.2] at h2
    exact ⟨goodTBspec t U h.1.1, h2⟩
  | .op i t, U, h => by
    simp only [goodTB, Bool.and_eq_true, decide_eq_true_eq, List.all_eq_true, Bool.or_eq_true, beq_iff_eq, List.any_eq_true, bne_iff_ne, ne_eq, Bool.not_eq_true'] at h
    obtain ⟨⟨⟨h1, h2⟩, h3⟩, h4⟩ := h
    have := goodTBspec t _ h4
    refine ⟨lenT t, rfl, h1, h2, fun j hj hne => ?_, ?_⟩
    · obtain ⟨g1, g2⟩ := (h3 j (by simpa using hj)).resolve_left hne
      refine ⟨g1, g2.imp id ?_⟩
      rintro ⟨g3, z, hz, ⟨g4, g5⟩, g6⟩
      exact ⟨g3, z, by simpa using hz, g4, g5, g6⟩
    have e : (fun x => (U.filter (· != i)).contains x) = fun x => U.contains x && x != i := by
      funext x
      rw [Bool.eq_iff_iff]
      simp
    rw [← e]; exact this
def treeOK (ops : Array Oper) (kd : List Nat) (t : PT) : Bool :=
  goodTB ops kd t (List.range ops.size) && lenT t == ops.size && covT ops kd ops.size t ((List.range ops.size).filter fun i => !isVal (kOf kd i)) && Region.noSelect ops && kd.all (fun k => k != 3) &&
    ((List.range ops.size).all fun j => match ops[j]? with
      | some o => o.after.all fun e => !(Region.binds .any e) || (decide (e.on < ops.size) && e.on != j)
      | none => true)
/-- **A region whose order is drawn**, by a tree of plans. -/
theorem CW.drawT {id : Nat} {Q : Exit → Env → World → Prop} {env : Env} {w : World} (kd : List Nat) (t : PT) (hm : P.follows .mixedOrders = true) (hB : treeOK ops kd t = true) (C : World → Prop)
    (h : ∀ w', w'.heap = w.heap → w'.tape = w.tape → w'.os = w.os → w'.output = w.output → C w' ∧ opsT P C n ops.toList kd t env w' fun env' w' => Q .normal env' w') :
    CW P n (.region id ops true) Q env w := by
  refine .mk fun ds a hst => ?_
  simp only [treeOK, Bool.and_eq_true, beq_iff_eq] at hB
  obtain ⟨⟨⟨⟨⟨hg, hl⟩, hcov⟩, hs⟩, hk3⟩, hin⟩ := hB
  have hd := h { w with drawn := w.drawn + 1 } rfl rfl rfl rfl
  have hrun := opsT_sound (P := P) (C := C) (n := n) (ds := ds) (ops := ops) (kd := kd) (K := fun env' w' => Q .normal env' w') (K' := fun a' w' => ∃ env', St n ds env' a' ∧ Q .normal env' w')
    (fun env a w h1 h2 => ⟨env, h1, h2⟩) hk3 t env a { w with drawn := w.drawn + 1 } hd.1 hst hd.2
  refine Go.wp_mono (Q := fun e a' w' => e = .normal ∧ ∃ env', St n ds env' a' ∧ Q .normal env' w') ?_ (fun e a' w' ⟨he, env', h1, h2⟩ => ⟨env', h1, by rw [he]; exact h2⟩)
  refine wp_region_any hm ?_
  have hgood := goodTBspec (ops := ops) (kd := kd) t _ hg
  rw [hl] at hgood
  have eU : (fun i => (List.range ops.size).contains i) = fun i => !(Array.replicate ops.size false).getD i true := by
    funext i
    rw [Bool.eq_iff_iff]
    by_cases hi : i < ops.size
    · simp [hi]
    · simp [hi]
  rw [eU] at hgood
  exact any_of_RunT (P := P) (C := C) (ops := ops) (kd := kd) (Q' := fun e a' w' => e = .normal ∧ ∃ env', St n ds env' a' ∧ Q .normal env' w') (K := fun a' w' => ∃ env', St n ds env' a' ∧ Q .normal env' w')
    (fun a w h => ⟨rfl, h⟩) hs (fun j oj hj e he hb => by
      have hjlt : j < ops.size := (Array.getElem?_eq_some_iff.1 hj).1
      have h1 := List.all_eq_true.1 hin j (List.mem_range.2 hjlt)
      simp only [hj] at h1
      have h2 := Array.all_eq_true'.1 h1 e he
      simpa [hb] using h2) ops.size ops.size t _ (Array.replicate ops.size false) a { w with drawn := w.drawn + 1 } (by simp) hgood (fun i => by
        rw [List.mem_filter, List.mem_range]
        by_cases hi : i < ops.size
        · simp [hi]
        · simp [hi]) hcov (fun j oj hj hlj => by
        have hjlt : j < ops.size := (Array.getElem?_eq_some_iff.1 hj).1
        simp [hjlt] at hlj) hrun
end
end Go.Ev
