/- A row of little room: a live question, one call. Conditions: none. -/
import Derived.Test.YtfhfpklefgjeoaaQueB
import Derived.Test.YtfhfpklefgjeoaaMQ
namespace Go.Ev
open Go Go.Proofs
set_option maxRecDepth 10000
set_option maxHeartbeats 4000000

abbrev Act5 := Int × Num × Int
def encA5 (x : Act5) : List Value := [.int .u8 x.1, .int .i64 x.2.1.1, .int .i64 x.2.1.2, .int .i64 x.2.2]
abbrev wA5 (k : Int) (v : Num) (i : Int) : Value := .agg #[.int .u8 k, .int .i64 v.1, .int .i64 v.2, .int .i64 i]

theorem qopen_nil : Fn Try.prog 69 [.nilIface] (.tuple #[.pointer none, .int .i64 1]) := by
  intro β w As h
  refine calls_W (args := [.nilIface]) Try.func69 rfl rfl rfl ?_
  conv => whnf
  repeat (first | ((with_reducible refine CW.is ?_); (first | refine CW.run rfl ?_ | refine CW.go ?_); conv => whnf))
  exact ⟨rfl, h⟩
theorem put_nil (first : Bool) : Fn Try.prog 88 [.nilIface, vN (0, 0), .bool first] (oE 1) := by
  intro β w As h
  refine calls_W (args := [.nilIface, vN (0, 0), .bool first]) Try.func88 rfl rfl rfl ?_
  conv => whnf
  repeat (first | ((with_reducible refine CW.is ?_); refine CW.go ?_; conv => whnf) | ((with_reducible refine New.is ?_); refine Sat.newK h fun b w h => ?_; conv => whnf) | ((with_reducible refine LdN.is ?_); refine Sat.ldN 0 h rfl _ rfl rfl ?_; conv => whnf))
  refine gRight1 (v := (0, 0)) h (fun hv w h => ?_) (fun hv w h => by cases hv)
  conv => whnf
  repeat (first | ((with_reducible refine CW.is ?_); refine CW.run rfl ?_; conv => whnf))
  refine qopen_nil.call h (Try.call69 _ _) fun w h => ?_
  conv => whnf
  repeat (first | ((with_reducible refine CW.is ?_); (first | refine CW.run rfl ?_ | refine CW.go ?_); conv => whnf))
  exact ⟨rfl, h.tail⟩
theorem take_nil (first : Bool) : Fn Try.prog 89 [.nilIface, .bool first] (oNE ((0, 0), 1)) := by
  intro β w As h
  refine calls_W (args := [.nilIface, .bool first]) Try.func89 rfl rfl rfl ?_
  conv => whnf
  repeat (first | ((with_reducible refine CW.is ?_); refine CW.run rfl ?_; conv => whnf) | ((with_reducible refine New.is ?_); refine Sat.newK h fun b w h => ?_; conv => whnf))
  refine qopen_nil.call h (Try.call69 _ _) fun w h => ?_
  conv => whnf
  repeat (first | ((with_reducible refine CW.is ?_); (first | refine CW.run rfl ?_ | refine CW.go ?_); conv => whnf) | ((with_reducible refine LdN.is ?_); refine Sat.ldN 0 h rfl _ rfl rfl ?_; conv => whnf) | ((with_reducible refine Runs.is ?_); refine Sat.store 0 h rfl rfl rfl rfl rfl ?_; (conv => whnf); intro w h; (conv => whnf)))
  exact ⟨rfl, h.tail⟩
theorem onceQ_nil (k i : Int) : Fn Try.prog 40 [.nilIface, wA5 k (0, 0) i] (oNE ((0, 0), 1)) := by
  intro β w As h
  refine calls_W (args := [.nilIface, wA5 k (0, 0) i]) Try.func40 rfl rfl rfl ?_
  conv => whnf
  repeat (first | ((with_reducible refine CW.is ?_); refine CW.run rfl ?_; conv => whnf) | ((with_reducible refine Chk.is ?_); refine Chk.mk (by decide) ?_; conv => whnf) | ((with_reducible refine New.is ?_); refine Sat.newK h fun b w h => ?_; conv => whnf) | ((with_reducible refine Ld.is ?_); refine Sat.ld 1 h rfl rfl ?_; conv => whnf))
  refine sel_mk (fun h1 => ?_) (fun h1 => ?_)
  · conv => whnf
    repeat (first | ((with_reducible refine CW.is ?_); refine CW.run rfl ?_; conv => whnf) | ((with_reducible refine LdN.is ?_); refine Sat.ldN 1 h rfl _ rfl rfl ?_; conv => whnf))
    have c : ∀ w As, Sat β w As → Calls Try.prog 64 #[.nilIface, vN (0, 0)] w fun e w' => e = .returned (oE 1) ∧ Sat β w' As := by
      intro w As h
      refine calls_W (args := [.nilIface, vN (0, 0)]) Try.func64 rfl rfl rfl ?_
      conv => whnf
      repeat (first | ((with_reducible refine CW.is ?_); refine CW.run rfl ?_; conv => whnf) | ((with_reducible refine New.is ?_); refine Sat.newK h fun b w h => ?_; conv => whnf) | ((with_reducible refine LdN.is ?_); refine Sat.ldN 0 h rfl _ rfl rfl ?_; conv => whnf))
      refine (put_nil false).call h (Try.call88 _ _) fun w h => ?_
      conv => whnf
      repeat (first | ((with_reducible refine CW.is ?_); refine CW.run rfl ?_; conv => whnf))
      exact ⟨rfl, h.tail⟩
    refine CallF.val (c w _ h) (Try.call64 _ _) fun w h => ?_
    conv => whnf
    repeat (first | ((with_reducible refine CW.is ?_); refine CW.run rfl ?_; conv => whnf) | ((with_reducible refine LdN.is ?_); refine Sat.ldN 0 h rfl _ rfl rfl ?_; conv => whnf) | ((with_reducible refine Runs.is ?_); refine Sat.store 0 h rfl rfl rfl rfl rfl ?_; (conv => whnf); intro w h; (conv => whnf)))
    exact ⟨rfl, h.tail.tail⟩
  conv => whnf
  repeat (first | ((with_reducible refine CW.is ?_); refine CW.run rfl ?_; conv => whnf))
  refine sel_mk (fun h1 => ?_) (fun h1 => ?_)
  · conv => whnf
    repeat (first | ((with_reducible refine CW.is ?_); refine CW.run rfl ?_; conv => whnf) | ((with_reducible refine LdN.is ?_); refine Sat.ldN 1 h rfl _ rfl rfl ?_; conv => whnf))
    have c : ∀ w As, Sat β w As → Calls Try.prog 65 #[.nilIface, vN (0, 0)] w fun e w' => e = .returned (oE 1) ∧ Sat β w' As := by
      intro w As h
      refine calls_W (args := [.nilIface, vN (0, 0)]) Try.func65 rfl rfl rfl ?_
      conv => whnf
      repeat (first | ((with_reducible refine CW.is ?_); refine CW.run rfl ?_; conv => whnf) | ((with_reducible refine New.is ?_); refine Sat.newK h fun b w h => ?_; conv => whnf) | ((with_reducible refine LdN.is ?_); refine Sat.ldN 0 h rfl _ rfl rfl ?_; conv => whnf))
      refine (put_nil true).call h (Try.call88 _ _) fun w h => ?_
      conv => whnf
      repeat (first | ((with_reducible refine CW.is ?_); refine CW.run rfl ?_; conv => whnf))
      exact ⟨rfl, h.tail⟩
    refine CallF.val (c w _ h) (Try.call65 _ _) fun w h => ?_
    conv => whnf
    repeat (first | ((with_reducible refine CW.is ?_); refine CW.run rfl ?_; conv => whnf) | ((with_reducible refine LdN.is ?_); refine Sat.ldN 0 h rfl _ rfl rfl ?_; conv => whnf) | ((with_reducible refine Runs.is ?_); refine Sat.store 0 h rfl rfl rfl rfl rfl ?_; (conv => whnf); intro w h; (conv => whnf)))
    exact ⟨rfl, h.tail.tail⟩
  conv => whnf
  repeat (first | ((with_reducible refine CW.is ?_); refine CW.run rfl ?_; conv => whnf))
  refine sel_mk (fun h1 => ?_) (fun h1 => ?_)
  · conv => whnf
    repeat (first | ((with_reducible refine CW.is ?_); refine CW.run rfl ?_; conv => whnf))
    have c : ∀ w As, Sat β w As → Calls Try.prog 67 #[.nilIface] w fun e w' => e = .returned (oNE ((0, 0), 1)) ∧ Sat β w' As := by
      intro w As h
      refine calls_W (args := [.nilIface]) Try.func67 rfl rfl rfl ?_
      conv => whnf
      repeat (first | ((with_reducible refine CW.is ?_); refine CW.run rfl ?_; conv => whnf) | ((with_reducible refine New.is ?_); refine Sat.newK h fun b w h => ?_; conv => whnf))
      refine (take_nil true).call h (Try.call89 _ _) fun w h => ?_
      conv => whnf
      repeat (first | ((with_reducible refine CW.is ?_); refine CW.run rfl ?_; conv => whnf) | ((with_reducible refine LdN.is ?_); refine Sat.ldN 0 h rfl _ rfl rfl ?_; conv => whnf) | ((with_reducible refine Runs.is ?_); refine Sat.store 0 h rfl rfl rfl rfl rfl ?_; (conv => whnf); intro w h; (conv => whnf)))
      exact ⟨rfl, h.tail⟩
    refine CallF.val (c w _ h) (Try.call67 _ _) fun w h => ?_
    conv => whnf
    repeat (first | ((with_reducible refine CW.is ?_); refine CW.run rfl ?_; conv => whnf) | ((with_reducible refine LdN.is ?_); refine Sat.ldN 0 h rfl _ rfl rfl ?_; conv => whnf) | ((with_reducible refine Runs.is ?_); refine Sat.store 0 h rfl rfl rfl rfl rfl ?_; (conv => whnf); intro w h; (conv => whnf)))
    exact ⟨rfl, h.tail.tail⟩
  conv => whnf
  repeat (first | ((with_reducible refine CW.is ?_); refine CW.run rfl ?_; conv => whnf))
  refine sel_mk (fun h1 => ?_) (fun h1 => ?_)
  · conv => whnf
    repeat (first | ((with_reducible refine CW.is ?_); refine CW.run rfl ?_; conv => whnf))
    have c : ∀ w As, Sat β w As → Calls Try.prog 66 #[.nilIface] w fun e w' => e = .returned (oNE ((0, 0), 1)) ∧ Sat β w' As := by
      intro w As h
      refine calls_W (args := [.nilIface]) Try.func66 rfl rfl rfl ?_
      conv => whnf
      repeat (first | ((with_reducible refine CW.is ?_); refine CW.run rfl ?_; conv => whnf) | ((with_reducible refine New.is ?_); refine Sat.newK h fun b w h => ?_; conv => whnf))
      refine (take_nil false).call h (Try.call89 _ _) fun w h => ?_
      conv => whnf
      repeat (first | ((with_reducible refine CW.is ?_); refine CW.run rfl ?_; conv => whnf) | ((with_reducible refine LdN.is ?_); refine Sat.ldN 0 h rfl _ rfl rfl ?_; conv => whnf) | ((with_reducible refine Runs.is ?_); refine Sat.store 0 h rfl rfl rfl rfl rfl ?_; (conv => whnf); intro w h; (conv => whnf)))
      exact ⟨rfl, h.tail⟩
    refine CallF.val (c w _ h) (Try.call66 _ _) fun w h => ?_
    conv => whnf
    repeat (first | ((with_reducible refine CW.is ?_); refine CW.run rfl ?_; conv => whnf) | ((with_reducible refine LdN.is ?_); refine Sat.ldN 0 h rfl _ rfl rfl ?_; conv => whnf) | ((with_reducible refine Runs.is ?_); refine Sat.store 0 h rfl rfl rfl rfl rfl ?_; (conv => whnf); intro w h; (conv => whnf)))
    exact ⟨rfl, h.tail.tail⟩
  conv => whnf
  repeat (first | ((with_reducible refine CW.is ?_); refine CW.run rfl ?_; conv => whnf))
  refine sel_mk (fun h1 => ?_) (fun h1 => ?_)
  · conv => whnf
    repeat (first | ((with_reducible refine CW.is ?_); refine CW.run rfl ?_; conv => whnf))
    have c : ∀ w As, Sat β w As → Calls Try.prog 68 #[.nilIface] w fun e w' => e = .returned (.tuple #[.int .i64 0, .int .i64 1]) ∧ Sat β w' As := by
      intro w As h
      refine calls_W (args := [.nilIface]) Try.func68 rfl rfl rfl ?_
      conv => whnf
      repeat (first | ((with_reducible refine CW.is ?_); refine CW.run rfl ?_; conv => whnf))
      refine qopen_nil.call h (Try.call69 _ _) fun w h => ?_
      conv => whnf
      repeat (first | ((with_reducible refine CW.is ?_); (first | refine CW.run rfl ?_ | refine CW.go ?_); conv => whnf))
      exact ⟨rfl, h⟩
    refine CallF.val (c w _ h) (Try.call68 _ _) fun w h => ?_
    conv => whnf
    repeat (first | ((with_reducible refine CW.is ?_); refine CW.run rfl ?_; conv => whnf) | ((with_reducible refine LdN.is ?_); refine Sat.ldN 0 h rfl _ rfl rfl ?_; conv => whnf) | ((with_reducible refine Runs.is ?_); refine Sat.store 0 h rfl rfl rfl rfl rfl ?_; (conv => whnf); intro w h; (conv => whnf)))
    exact ⟨rfl, h.tail.tail⟩
  · conv => whnf
    repeat (first | ((with_reducible refine CW.is ?_); refine CW.run rfl ?_; conv => whnf) | ((with_reducible refine Ld.is ?_); refine Sat.ld 1 h rfl rfl ?_; conv => whnf))
    have c : ∀ w As, Sat β w As → Calls Try.prog 41 #[.nilIface, .int .i64 i] w fun e w' => e = .returned (oNE ((0, 0), 1)) ∧ Sat β w' As := by
      intro w As h
      refine calls_W (args := [.nilIface, .int .i64 i]) Try.func41 rfl rfl rfl ?_
      conv => whnf
      repeat (first | ((with_reducible refine CW.is ?_); refine CW.run rfl ?_; conv => whnf) | ((with_reducible refine New.is ?_); refine Sat.newK h fun b w h => ?_; conv => whnf))
      refine qopen_nil.call h (Try.call69 _ _) fun w h => ?_
      conv => whnf
      repeat (first | ((with_reducible refine CW.is ?_); (first | refine CW.run rfl ?_ | refine CW.go ?_); conv => whnf) | ((with_reducible refine LdN.is ?_); refine Sat.ldN 0 h rfl _ rfl rfl ?_; conv => whnf) | ((with_reducible refine Runs.is ?_); refine Sat.store 0 h rfl rfl rfl rfl rfl ?_; (conv => whnf); intro w h; (conv => whnf)))
      exact ⟨rfl, h.tail⟩
    refine CallF.val (c w _ h) (Try.call41 _ _) fun w h => ?_
    conv => whnf
    repeat (first | ((with_reducible refine CW.is ?_); refine CW.run rfl ?_; conv => whnf) | ((with_reducible refine LdN.is ?_); refine Sat.ldN 0 h rfl _ rfl rfl ?_; conv => whnf) | ((with_reducible refine Runs.is ?_); refine Sat.store 0 h rfl rfl rfl rfl rfl ?_; (conv => whnf); intro w h; (conv => whnf)))
    exact ⟨rfl, h.tail.tail⟩

theorem alive5_any : Fn Try.prog 38 [] (.bool true) := by
  intro β w As h
  refine calls_W (args := []) Try.func38 rfl rfl rfl ?_
  conv => whnf
  repeat (first | ((with_reducible refine CW.is ?_); refine CW.run rfl ?_; conv => whnf))
  refine CallF.ret (memNew_any 3 (by decide) (by decide) β w _ h) (Try.call33 _ _) ?_
  rintro _ w ⟨p, rfl, h⟩
  refine ⟨_, rfl, ?_⟩
  have G := goodP (N := 3) (by decide) (by decide)
  have e0 : List.replicate (Int.toNat 3) ((0, 0) : Num) = [(0, 0), (0, 0), (0, 0)] := rfl
  rw [e0] at h
  conv => whnf
  repeat (first | ((with_reducible refine CW.is ?_); (first | refine CW.run rfl ?_ | refine CW.go ?_); conv => whnf))
  refine (push_any (plainMem p) G (5, 0)).callE (a := 0) (s' := [(0, 1), (5, 0), (0, 0)]) rfl h ⟨rfl, rfl⟩ (Try.call64 _ _) fun w h => ?_
  conv => whnf
  repeat (first | ((with_reducible refine CW.is ?_); refine CW.run rfl ?_; conv => whnf))
  refine (unshift_any (plainMem p) G (6, 0)).callE (a := 0) (s' := [(1, 2), (5, 0), (6, 0)]) rfl h ⟨rfl, rfl⟩ (Try.call65 _ _) fun w h => ?_
  conv => whnf
  repeat (first | ((with_reducible refine CW.is ?_); refine CW.run rfl ?_; conv => whnf))
  refine (push_any (plainMem p) G (7, 0)).callE (a := 31) (s' := [(1, 2), (5, 0), (6, 0)]) rfl h ⟨rfl, rfl⟩ (Try.call64 _ _) fun w h => ?_
  conv => whnf
  repeat (first | ((with_reducible refine CW.is ?_); refine CW.run rfl ?_; conv => whnf))
  refine (pop_any (plainMem p) G).callE (a := ((5, 0), 0)) (s' := [(1, 1), (5, 0), (6, 0)]) rfl h ⟨rfl, rfl⟩ (Try.call66 _ _) fun w h => ?_
  conv => whnf
  repeat (first | ((with_reducible refine CW.is ?_); refine CW.run rfl ?_; conv => whnf) | ((with_reducible refine New.is ?_); refine Sat.newK h fun b w h => ?_; conv => whnf) | ((with_reducible refine Runs.is ?_); refine Sat.store 0 h rfl rfl rfl rfl rfl ?_; (conv => whnf); intro w h; (conv => whnf)))
  refine (shift_any (plainMem p) G).callE (a := ((6, 0), 0)) (s' := [(0, 0), (5, 0), (6, 0)]) rfl (h.front 1 rfl) ⟨rfl, rfl⟩ (Try.call67 _ _) fun w h => ?_
  conv => whnf
  repeat (first | ((with_reducible refine CW.is ?_); refine CW.run rfl ?_; conv => whnf) | ((with_reducible refine New.is ?_); refine Sat.newK h fun b w h => ?_; conv => whnf) | ((with_reducible refine Runs.is ?_); refine Sat.store 0 h rfl rfl rfl rfl rfl ?_; (conv => whnf); intro w h; (conv => whnf)))
  refine (shift_any (plainMem p) G).callE (a := ((0, 0), 32)) (s' := [(0, 0), (5, 0), (6, 0)]) rfl (h.front 1 rfl) ⟨rfl, rfl⟩ (Try.call67 _ _) fun w h => ?_
  conv => whnf
  repeat (first | ((with_reducible refine CW.is ?_); refine CW.run rfl ?_; conv => whnf) | ((with_reducible refine New.is ?_); refine Sat.newK h fun b w h => ?_; conv => whnf) | ((with_reducible refine Ld.is ?_); (first | refine Sat.ld 2 h rfl rfl ?_ | refine Sat.ld 3 h rfl rfl ?_); conv => whnf) | ((with_reducible refine Runs.is ?_); refine Sat.store 0 h rfl rfl rfl rfl rfl ?_; (conv => whnf); intro w h; (conv => whnf)))
  exact ⟨rfl, h.tail.tail.tail.tail⟩

/-- One call. -/
def onceQ (N k : Int) (v : Num) (i : Int) : MP (Num × Int) :=
  if k.tmod 6 = 0 then (putM N v false).bind fun e => .ret ((0, 0), e) else if k.tmod 6 = 1 then (putM N v true).bind fun e => .ret ((0, 0), e) else if k.tmod 6 = 2 then takeM N true
  else if k.tmod 6 = 3 then takeM N false else if k.tmod 6 = 4 then (lenM N).bind fun r => .ret ((r.1, 0), r.2) else atM N i

section
variable {σ : Type} {T : Nat} {u : Value} {R : σ → Asrt} {rd : σ → Int → (Num × Int) × σ} {wr : σ → Int → Num → Int × σ} {sz : σ → Int} {I : σ → Prop} {N : Int}
variable (M : MemP T u R rd wr sz) (G : GoodM rd wr sz I N)
include M G
theorem onceQ_any (k : Int) (v : Num) (i : Int) : Does T u R rd wr I 40 [wA5 k v i] (onceQ N k v i) oNE := by
  refine .mk fun β w F s h hI => ?_
  refine calls_W (args := [.iface T u, wA5 k v i]) Try.func40 rfl rfl rfl ?_
  unfold onceQ
  conv => whnf
  repeat (first | ((with_reducible refine CW.is ?_); refine CW.run rfl ?_; conv => whnf) | ((with_reducible refine Chk.is ?_); refine Chk.mk (by decide) ?_; conv => whnf) | ((with_reducible refine New.is ?_); refine Sat.newK h fun b w h => ?_; conv => whnf) | ((with_reducible refine Ld.is ?_); refine Sat.ld 1 h rfl rfl ?_; conv => whnf))
  refine sel_mk (fun h1 => ?_) (fun h1 => ?_)
  · have h1 : k.tmod 6 = 0 := by simpa using h1
    rw [if_pos h1, MP.run_bind]
    rcases hr : (putM N v false).run rd wr s with ⟨e, s'⟩
    conv => whnf
    repeat (first | ((with_reducible refine CW.is ?_); refine CW.run rfl ?_; conv => whnf) | ((with_reducible refine LdN.is ?_); refine Sat.ldN 1 h rfl _ rfl rfl ?_; conv => whnf))
    refine (push_any M G v).callE hr (h.front 2 rfl) hI (Try.call64 _ _) fun w h => ?_
    conv => whnf
    repeat (first | ((with_reducible refine CW.is ?_); refine CW.run rfl ?_; conv => whnf) | ((with_reducible refine LdN.is ?_); refine Sat.ldN 1 h rfl _ rfl rfl ?_; conv => whnf) | ((with_reducible refine Runs.is ?_); refine Sat.store 1 h rfl rfl rfl rfl rfl ?_; (conv => whnf); intro w h; (conv => whnf)))
    exact ⟨rfl, h.keep [0, 3]⟩
  have h1 : ¬ k.tmod 6 = 0 := by simpa using h1
  rw [if_neg h1]
  conv => whnf
  repeat (first | ((with_reducible refine CW.is ?_); refine CW.run rfl ?_; conv => whnf))
  refine sel_mk (fun h1 => ?_) (fun h1 => ?_)
  · have h1 : k.tmod 6 = 1 := by simpa using h1
    rw [if_pos h1, MP.run_bind]
    rcases hr : (putM N v true).run rd wr s with ⟨e, s'⟩
    conv => whnf
    repeat (first | ((with_reducible refine CW.is ?_); refine CW.run rfl ?_; conv => whnf) | ((with_reducible refine LdN.is ?_); refine Sat.ldN 1 h rfl _ rfl rfl ?_; conv => whnf))
    refine (unshift_any M G v).callE hr (h.front 2 rfl) hI (Try.call65 _ _) fun w h => ?_
    conv => whnf
    repeat (first | ((with_reducible refine CW.is ?_); refine CW.run rfl ?_; conv => whnf) | ((with_reducible refine LdN.is ?_); refine Sat.ldN 1 h rfl _ rfl rfl ?_; conv => whnf) | ((with_reducible refine Runs.is ?_); refine Sat.store 1 h rfl rfl rfl rfl rfl ?_; (conv => whnf); intro w h; (conv => whnf)))
    exact ⟨rfl, h.keep [0, 3]⟩
  have h1 : ¬ k.tmod 6 = 1 := by simpa using h1
  rw [if_neg h1]
  conv => whnf
  repeat (first | ((with_reducible refine CW.is ?_); refine CW.run rfl ?_; conv => whnf))
  refine sel_mk (fun h1 => ?_) (fun h1 => ?_)
  · have h1 : k.tmod 6 = 2 := by simpa using h1
    rw [if_pos h1]
    rcases hr : (takeM N true).run rd wr s with ⟨⟨x, e⟩, s'⟩
    conv => whnf
    repeat (first | ((with_reducible refine CW.is ?_); refine CW.run rfl ?_; conv => whnf))
    refine (shift_any M G).callE hr (h.front 2 rfl) hI (Try.call67 _ _) fun w h => ?_
    conv => whnf
    repeat (first | ((with_reducible refine CW.is ?_); refine CW.run rfl ?_; conv => whnf) | ((with_reducible refine LdN.is ?_); refine Sat.ldN 1 h rfl _ rfl rfl ?_; conv => whnf) | ((with_reducible refine Runs.is ?_); refine Sat.store 1 h rfl rfl rfl rfl rfl ?_; (conv => whnf); intro w h; (conv => whnf)))
    exact ⟨rfl, h.keep [0, 3]⟩
  have h1 : ¬ k.tmod 6 = 2 := by simpa using h1
  rw [if_neg h1]
  conv => whnf
  repeat (first | ((with_reducible refine CW.is ?_); refine CW.run rfl ?_; conv => whnf))
  refine sel_mk (fun h1 => ?_) (fun h1 => ?_)
  · have h1 : k.tmod 6 = 3 := by simpa using h1
    rw [if_pos h1]
    rcases hr : (takeM N false).run rd wr s with ⟨⟨x, e⟩, s'⟩
    conv => whnf
    repeat (first | ((with_reducible refine CW.is ?_); refine CW.run rfl ?_; conv => whnf))
    refine (pop_any M G).callE hr (h.front 2 rfl) hI (Try.call66 _ _) fun w h => ?_
    conv => whnf
    repeat (first | ((with_reducible refine CW.is ?_); refine CW.run rfl ?_; conv => whnf) | ((with_reducible refine LdN.is ?_); refine Sat.ldN 1 h rfl _ rfl rfl ?_; conv => whnf) | ((with_reducible refine Runs.is ?_); refine Sat.store 1 h rfl rfl rfl rfl rfl ?_; (conv => whnf); intro w h; (conv => whnf)))
    exact ⟨rfl, h.keep [0, 3]⟩
  have h1 : ¬ k.tmod 6 = 3 := by simpa using h1
  rw [if_neg h1]
  conv => whnf
  repeat (first | ((with_reducible refine CW.is ?_); refine CW.run rfl ?_; conv => whnf))
  refine sel_mk (fun h1 => ?_) (fun h1 => ?_)
  · have h1 : k.tmod 6 = 4 := by simpa using h1
    rw [if_pos h1, MP.run_bind]
    rcases hr : (lenM N).run rd wr s with ⟨⟨x, e⟩, s'⟩
    conv => whnf
    repeat (first | ((with_reducible refine CW.is ?_); refine CW.run rfl ?_; conv => whnf))
    refine (lenM_any M G).callE hr (h.front 2 rfl) hI (Try.call68 _ _) fun w h => ?_
    conv => whnf
    repeat (first | ((with_reducible refine CW.is ?_); refine CW.run rfl ?_; conv => whnf) | ((with_reducible refine LdN.is ?_); refine Sat.ldN 1 h rfl _ rfl rfl ?_; conv => whnf) | ((with_reducible refine Runs.is ?_); refine Sat.store 1 h rfl rfl rfl rfl rfl ?_; (conv => whnf); intro w h; (conv => whnf)))
    exact ⟨rfl, h.keep [0, 3]⟩
  have h1 : ¬ k.tmod 6 = 4 := by simpa using h1
  rw [if_neg h1]
  rcases hr : (atM N i).run rd wr s with ⟨⟨x, e⟩, s'⟩
  conv => whnf
  repeat (first | ((with_reducible refine CW.is ?_); refine CW.run rfl ?_; conv => whnf) | ((with_reducible refine Ld.is ?_); refine Sat.ld 1 h rfl rfl ?_; conv => whnf))
  refine (atM_any M G i).callE hr (h.front 2 rfl) hI (Try.call41 _ _) fun w h => ?_
  conv => whnf
  repeat (first | ((with_reducible refine CW.is ?_); refine CW.run rfl ?_; conv => whnf) | ((with_reducible refine LdN.is ?_); refine Sat.ldN 1 h rfl _ rfl rfl ?_; conv => whnf) | ((with_reducible refine Runs.is ?_); refine Sat.store 1 h rfl rfl rfl rfl rfl ?_; (conv => whnf); intro w h; (conv => whnf)))
  exact ⟨rfl, h.keep [0, 3]⟩
end
end Go.Ev
