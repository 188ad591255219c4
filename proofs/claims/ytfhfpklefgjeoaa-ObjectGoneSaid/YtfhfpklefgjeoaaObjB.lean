/- Things that come and go: a live question, one call, and calls on a memory that stops. Conditions: none. -/
import Derived.Test.YtfhfpklefgjeoaaObjA
import Derived.Test.YtfhfpklefgjeoaaMemE
namespace Go.Ev
open Go Go.Proofs
set_option maxRecDepth 10000
set_option maxHeartbeats 4000000

abbrev Act3 := Int × Num × Num × Bool × Int
def encA3 (x : Act3) : List Value := [.int .u8 x.1, .int .i64 x.2.1.1, .int .i64 x.2.1.2, .int .i64 x.2.2.1.1, .int .i64 x.2.2.1.2, .bool x.2.2.2.1, .int .i64 x.2.2.2.2]
def vA3 (x : Act3) : Value := .agg #[.int .u8 x.1, .int .i64 x.2.1.1, .int .i64 x.2.1.2, .int .i64 x.2.2.1.1, .int .i64 x.2.2.1.2, .bool x.2.2.2.1, .int .i64 x.2.2.2.2]

abbrev wA3 (k : Int) (y v : Num) (t : Bool) (g : Int) : Value := .agg #[.int .u8 k, .int .i64 y.1, .int .i64 y.2, .int .i64 v.1, .int .i64 v.2, .bool t, .int .i64 g]
theorem new_nil (v : Num) : Fn Try.prog 45 [.nilIface, vN v] (oNE ((0, 0), 1)) := by
  intro β w As h
  refine calls_W (args := [.nilIface, vN v]) Try.func45 rfl rfl rfl ?_
  conv => whnf
  repeat (first | ((with_reducible refine CW.is ?_); (first | refine CW.run rfl ?_ | refine CW.go ?_); conv => whnf) | ((with_reducible refine New.is ?_); refine Sat.newK h fun b w h => ?_; conv => whnf) | ((with_reducible refine LdN.is ?_); refine Sat.ldN 0 h rfl _ rfl rfl ?_; conv => whnf) | ((with_reducible refine Runs.is ?_); refine Sat.store 0 h rfl rfl rfl rfl rfl ?_; (conv => whnf); intro w h; (conv => whnf)))
  exact ⟨rfl, h.tail.tail⟩
theorem good_nil (v : Num) : Fn Try.prog 75 [.nilIface, vN v] (oE 1) := by
  intro β w As h
  refine calls_W (args := [.nilIface, vN v]) Try.func75 rfl rfl rfl ?_
  conv => whnf
  repeat (first | ((with_reducible refine CW.is ?_); (first | refine CW.run rfl ?_ | refine CW.go ?_); conv => whnf) | ((with_reducible refine New.is ?_); refine Sat.newK h fun b w h => ?_; conv => whnf))
  exact ⟨rfl, h.tail⟩
theorem del_nil (v : Num) : Fn Try.prog 46 [.nilIface, vN v] (oE 1) := by
  intro β w As h
  refine calls_W (args := [.nilIface, vN v]) Try.func46 rfl rfl rfl ?_
  conv => whnf
  repeat (first | ((with_reducible refine CW.is ?_); refine CW.run rfl ?_; conv => whnf) | ((with_reducible refine New.is ?_); refine Sat.newK h fun b w h => ?_; conv => whnf) | ((with_reducible refine LdN.is ?_); refine Sat.ldN 0 h rfl _ rfl rfl ?_; conv => whnf))
  refine (good_nil v).call h (Try.call75 _ _) fun w h => ?_
  conv => whnf
  repeat (first | ((with_reducible refine CW.is ?_); refine CW.run rfl ?_; conv => whnf))
  exact ⟨rfl, h.tail⟩
theorem load_nil (v : Num) : Fn Try.prog 48 [.nilIface, vN v] (oNE ((0, 0), 1)) := by
  intro β w As h
  refine calls_W (args := [.nilIface, vN v]) Try.func48 rfl rfl rfl ?_
  conv => whnf
  repeat (first | ((with_reducible refine CW.is ?_); refine CW.run rfl ?_; conv => whnf) | ((with_reducible refine New.is ?_); refine Sat.newK h fun b w h => ?_; conv => whnf) | ((with_reducible refine LdN.is ?_); refine Sat.ldN 1 h rfl _ rfl rfl ?_; conv => whnf))
  refine (good_nil v).call h (Try.call75 _ _) fun w h => ?_
  conv => whnf
  repeat (first | ((with_reducible refine CW.is ?_); refine CW.run rfl ?_; conv => whnf) | ((with_reducible refine LdN.is ?_); refine Sat.ldN 0 h rfl _ rfl rfl ?_; conv => whnf) | ((with_reducible refine Runs.is ?_); refine Sat.store 0 h rfl rfl rfl rfl rfl ?_; (conv => whnf); intro w h; (conv => whnf)))
  exact ⟨rfl, h.tail.tail⟩
theorem store_nil (v : Num) : Fn Try.prog 47 [.nilIface, vN v, vN (0, 0)] (oE 1) := by
  intro β w As h
  refine calls_W (args := [.nilIface, vN v, vN (0, 0)]) Try.func47 rfl rfl rfl ?_
  conv => whnf
  repeat (first | ((with_reducible refine CW.is ?_); refine CW.go ?_; conv => whnf) | ((with_reducible refine New.is ?_); refine Sat.newK h fun b w h => ?_; conv => whnf) | ((with_reducible refine LdN.is ?_); refine Sat.ldN 0 h rfl _ rfl rfl ?_; conv => whnf))
  refine gRight1 (v := (0, 0)) h (fun hv w h => ?_) (fun hv w h => by cases hv)
  conv => whnf
  repeat (first | ((with_reducible refine CW.is ?_); refine CW.run rfl ?_; conv => whnf) | ((with_reducible refine LdN.is ?_); refine Sat.ldN 1 h rfl _ rfl rfl ?_; conv => whnf))
  refine (good_nil v).call h (Try.call75 _ _) fun w h => ?_
  conv => whnf
  repeat (first | ((with_reducible refine CW.is ?_); refine CW.run rfl ?_; conv => whnf))
  exact ⟨rfl, h.tail.tail⟩
theorem count_nil : Fn Try.prog 49 [.nilIface] (.tuple #[.int .i64 0, .int .i64 1]) := by
  intro β w As h
  refine calls_W (args := [.nilIface]) Try.func49 rfl rfl rfl ?_
  conv => whnf
  repeat (first | ((with_reducible refine CW.is ?_); (first | refine CW.run rfl ?_ | refine CW.go ?_); conv => whnf))
  exact ⟨rfl, h⟩

theorem alive3_any : Fn Try.prog 43 [] (.bool true) := by
  intro β w As h
  refine calls_W (args := []) Try.func43 rfl rfl rfl ?_
  conv => whnf
  repeat (first | ((with_reducible refine CW.is ?_); refine CW.run rfl ?_; conv => whnf))
  refine CallF.ret (memNew_any 4 (by decide) (by decide) β w _ h) (Try.call33 _ _) ?_
  rintro _ w ⟨p, rfl, h⟩
  refine ⟨_, rfl, ?_⟩
  have G := goodP (N := 4) (by decide) (by decide)
  have e0 : List.replicate (Int.toNat 4) ((0, 0) : Num) = [(0, 0), (0, 0), (0, 0), (0, 0)] := rfl
  rw [e0] at h
  conv => whnf
  repeat (first | ((with_reducible refine CW.is ?_); (first | refine CW.run rfl ?_ | refine CW.go ?_); conv => whnf))
  refine (newM_any (plainMem p) G (5, 0)).callE (a := ((0, 1), 0)) (s' := [(1, 1), (5, 0), (0, 0), (0, 0)]) rfl h ⟨rfl, rfl⟩ (Try.call45 _ _) fun w h => ?_
  conv => whnf
  repeat (first | ((with_reducible refine CW.is ?_); refine CW.run rfl ?_; conv => whnf) | ((with_reducible refine New.is ?_); refine Sat.newK h fun b w h => ?_; conv => whnf) | ((with_reducible refine LdN.is ?_); refine Sat.ldN 0 h rfl _ rfl rfl ?_; conv => whnf) | ((with_reducible refine Runs.is ?_); refine Sat.store 0 h rfl rfl rfl rfl rfl ?_; (conv => whnf); intro w h; (conv => whnf)))
  refine (delM_any (plainMem p) G (0, 1)).callE (a := 0) (s' := [(1, 0), (5, 0), (0, 0), (0, 0)]) rfl (h.front 1 rfl) ⟨rfl, rfl⟩ (Try.call46 _ _) fun w h => ?_
  conv => whnf
  repeat (first | ((with_reducible refine CW.is ?_); refine CW.run rfl ?_; conv => whnf))
  refine (newM_any (plainMem p) G (6, 0)).callE (a := ((0, 2), 0)) (s' := [(2, 1), (6, 0), (0, 0), (0, 0)]) rfl h ⟨rfl, rfl⟩ (Try.call45 _ _) fun w h => ?_
  conv => whnf
  repeat (first | ((with_reducible refine CW.is ?_); refine CW.run rfl ?_; conv => whnf) | ((with_reducible refine New.is ?_); refine Sat.newK h fun b w h => ?_; conv => whnf) | ((with_reducible refine LdN.is ?_); refine Sat.ldN 2 h rfl _ rfl rfl ?_; conv => whnf) | ((with_reducible refine Runs.is ?_); refine Sat.store 0 h rfl rfl rfl rfl rfl ?_; (conv => whnf); intro w h; (conv => whnf)))
  refine (loadM_any (plainMem p) G (0, 1)).callE (a := ((0, 0), 32)) (s' := [(2, 1), (6, 0), (0, 0), (0, 0)]) rfl (h.front 1 rfl) ⟨rfl, rfl⟩ (Try.call48 _ _) fun w h => ?_
  conv => whnf
  repeat (first | ((with_reducible refine CW.is ?_); refine CW.run rfl ?_; conv => whnf) | ((with_reducible refine New.is ?_); refine Sat.newK h fun b w h => ?_; conv => whnf) | ((with_reducible refine LdN.is ?_); refine Sat.ldN 2 h rfl _ rfl rfl ?_; conv => whnf) | ((with_reducible refine Runs.is ?_); refine Sat.store 0 h rfl rfl rfl rfl rfl ?_; (conv => whnf); intro w h; (conv => whnf)))
  refine (loadM_any (plainMem p) G (0, 2)).callE (a := ((6, 0), 0)) (s' := [(2, 1), (6, 0), (0, 0), (0, 0)]) rfl (h.front 1 rfl) ⟨rfl, rfl⟩ (Try.call48 _ _) fun w h => ?_
  conv => whnf
  repeat (first | ((with_reducible refine CW.is ?_); refine CW.run rfl ?_; conv => whnf) | ((with_reducible refine New.is ?_); refine Sat.newK h fun b w h => ?_; conv => whnf) | ((with_reducible refine Runs.is ?_); refine Sat.store 0 h rfl rfl rfl rfl rfl ?_; (conv => whnf); intro w h; (conv => whnf)))
  refine (countM_any (plainMem p) G).callE (a := (1, 0)) (s' := [(2, 1), (6, 0), (0, 0), (0, 0)]) rfl (h.front 1 rfl) ⟨rfl, rfl⟩ (Try.call49 _ _) fun w h => ?_
  conv => whnf
  repeat (first | ((with_reducible refine CW.is ?_); refine CW.run rfl ?_; conv => whnf) | ((with_reducible refine Ld.is ?_); refine Sat.ld 1 h rfl rfl ?_; conv => whnf) | ((with_reducible refine LdN.is ?_); (first | refine Sat.ldN 3 h rfl _ rfl rfl ?_ | refine Sat.ldN 4 h rfl _ rfl rfl ?_); conv => whnf) | ((with_reducible refine EqP.is ?_); refine eqN (xs := (_, _)) (ys := (_, _)) ?_; conv => whnf))
  exact ⟨rfl, h.tail.tail.tail.tail.tail⟩

/-- One call. -/
def onceM (N k : Int) (h v : Num) : MP (Num × Int) :=
  if k.tmod 5 = 0 then newM N v else if k.tmod 5 = 1 then (delM N h).bind fun e => .ret ((0, 0), e) else if k.tmod 5 = 2 then loadM N h
  else if k.tmod 5 = 3 then (storeM N h v).bind fun e => .ret ((0, 0), e) else (countM (N / 2).toNat 0 0).bind fun r => .ret ((r.1, 0), r.2)

section
variable {σ : Type} {T : Nat} {u : Value} {R : σ → Asrt} {rd : σ → Int → (Num × Int) × σ} {wr : σ → Int → Num → Int × σ} {sz : σ → Int} {I : σ → Prop} {N : Int}
variable (M : MemP T u R rd wr sz) (G : GoodM rd wr sz I N)
include M G
theorem once3_any (x : Act3) : Does T u R rd wr I 54 [vA3 x] (onceM N x.1 x.2.1 x.2.2.1) oNE := by
  refine .mk fun β w F s h hI => ?_
  obtain ⟨k, y, v, t, ago⟩ := x
  refine calls_W (args := [.iface T u, vA3 (k, y, v, t, ago)]) Try.func54 rfl rfl rfl ?_
  dsimp only
  unfold onceM
  conv => whnf
  repeat (first | ((with_reducible refine CW.is ?_); refine CW.run rfl ?_; conv => whnf) | ((with_reducible refine Chk.is ?_); refine Chk.mk (by decide) ?_; conv => whnf) | ((with_reducible refine New.is ?_); refine Sat.newK h fun b w h => ?_; conv => whnf) | ((with_reducible refine Ld.is ?_); refine Sat.ld 1 h rfl rfl ?_; conv => whnf))
  refine sel_mk (fun h1 => ?_) (fun h1 => ?_)
  · have h1 : k.tmod 5 = 0 := by simpa using h1
    rw [if_pos h1]
    rcases hr : (newM N v).run rd wr s with ⟨⟨a, e⟩, s'⟩
    conv => whnf
    repeat (first | ((with_reducible refine CW.is ?_); refine CW.run rfl ?_; conv => whnf) | ((with_reducible refine LdN.is ?_); refine Sat.ldN 1 h rfl _ rfl rfl ?_; conv => whnf))
    refine (newM_any M G v).callE hr (h.front 2 rfl) hI (Try.call45 _ _) fun w h => ?_
    conv => whnf
    repeat (first | ((with_reducible refine CW.is ?_); refine CW.run rfl ?_; conv => whnf) | ((with_reducible refine LdN.is ?_); refine Sat.ldN 1 h rfl _ rfl rfl ?_; conv => whnf) | ((with_reducible refine Runs.is ?_); refine Sat.store 1 h rfl rfl rfl rfl rfl ?_; (conv => whnf); intro w h; (conv => whnf)))
    exact ⟨rfl, h.keep [0, 3]⟩
  have h1 : ¬ k.tmod 5 = 0 := by simpa using h1
  rw [if_neg h1]
  conv => whnf
  repeat (first | ((with_reducible refine CW.is ?_); refine CW.run rfl ?_; conv => whnf))
  refine sel_mk (fun h1 => ?_) (fun h1 => ?_)
  · have h1 : k.tmod 5 = 1 := by simpa using h1
    rw [if_pos h1, MP.run_bind]
    rcases hr : (delM N y).run rd wr s with ⟨e, s'⟩
    conv => whnf
    repeat (first | ((with_reducible refine CW.is ?_); refine CW.run rfl ?_; conv => whnf) | ((with_reducible refine LdN.is ?_); refine Sat.ldN 1 h rfl _ rfl rfl ?_; conv => whnf))
    refine (delM_any M G y).callE hr (h.front 2 rfl) hI (Try.call46 _ _) fun w h => ?_
    conv => whnf
    repeat (first | ((with_reducible refine CW.is ?_); refine CW.run rfl ?_; conv => whnf) | ((with_reducible refine LdN.is ?_); refine Sat.ldN 1 h rfl _ rfl rfl ?_; conv => whnf) | ((with_reducible refine Runs.is ?_); refine Sat.store 1 h rfl rfl rfl rfl rfl ?_; (conv => whnf); intro w h; (conv => whnf)))
    exact ⟨rfl, h.keep [0, 3]⟩
  have h1 : ¬ k.tmod 5 = 1 := by simpa using h1
  rw [if_neg h1]
  conv => whnf
  repeat (first | ((with_reducible refine CW.is ?_); refine CW.run rfl ?_; conv => whnf))
  refine sel_mk (fun h1 => ?_) (fun h1 => ?_)
  · have h1 : k.tmod 5 = 2 := by simpa using h1
    rw [if_pos h1]
    rcases hr : (loadM N y).run rd wr s with ⟨⟨a, e⟩, s'⟩
    conv => whnf
    repeat (first | ((with_reducible refine CW.is ?_); refine CW.run rfl ?_; conv => whnf) | ((with_reducible refine LdN.is ?_); refine Sat.ldN 1 h rfl _ rfl rfl ?_; conv => whnf))
    refine (loadM_any M G y).callE hr (h.front 2 rfl) hI (Try.call48 _ _) fun w h => ?_
    conv => whnf
    repeat (first | ((with_reducible refine CW.is ?_); refine CW.run rfl ?_; conv => whnf) | ((with_reducible refine LdN.is ?_); refine Sat.ldN 1 h rfl _ rfl rfl ?_; conv => whnf) | ((with_reducible refine Runs.is ?_); refine Sat.store 1 h rfl rfl rfl rfl rfl ?_; (conv => whnf); intro w h; (conv => whnf)))
    exact ⟨rfl, h.keep [0, 3]⟩
  have h1 : ¬ k.tmod 5 = 2 := by simpa using h1
  rw [if_neg h1]
  conv => whnf
  repeat (first | ((with_reducible refine CW.is ?_); refine CW.run rfl ?_; conv => whnf))
  refine sel_mk (fun h1 => ?_) (fun h1 => ?_)
  · have h1 : k.tmod 5 = 3 := by simpa using h1
    rw [if_pos h1, MP.run_bind]
    rcases hr : (storeM N y v).run rd wr s with ⟨e, s'⟩
    conv => whnf
    repeat (first | ((with_reducible refine CW.is ?_); refine CW.run rfl ?_; conv => whnf) | ((with_reducible refine LdN.is ?_); refine Sat.ldN 1 h rfl _ rfl rfl ?_; conv => whnf))
    refine (storeM_any M G y v).callE hr (h.front 2 rfl) hI (Try.call47 _ _) fun w h => ?_
    conv => whnf
    repeat (first | ((with_reducible refine CW.is ?_); refine CW.run rfl ?_; conv => whnf) | ((with_reducible refine LdN.is ?_); refine Sat.ldN 1 h rfl _ rfl rfl ?_; conv => whnf) | ((with_reducible refine Runs.is ?_); refine Sat.store 1 h rfl rfl rfl rfl rfl ?_; (conv => whnf); intro w h; (conv => whnf)))
    exact ⟨rfl, h.keep [0, 3]⟩
  have h1 : ¬ k.tmod 5 = 3 := by simpa using h1
  rw [if_neg h1, MP.run_bind]
  rcases hr : (countM (N / 2).toNat 0 0).run rd wr s with ⟨⟨a, e⟩, s'⟩
  conv => whnf
  repeat (first | ((with_reducible refine CW.is ?_); refine CW.run rfl ?_; conv => whnf))
  refine (countM_any M G).callE hr (h.front 2 rfl) hI (Try.call49 _ _) fun w h => ?_
  conv => whnf
  repeat (first | ((with_reducible refine CW.is ?_); refine CW.run rfl ?_; conv => whnf) | ((with_reducible refine LdN.is ?_); refine Sat.ldN 1 h rfl _ rfl rfl ?_; conv => whnf) | ((with_reducible refine Runs.is ?_); refine Sat.store 1 h rfl rfl rfl rfl rfl ?_; (conv => whnf); intro w h; (conv => whnf)))
  exact ⟨rfl, h.keep [0, 3]⟩
end

theorem strict_free {N : Int} : ∀ (k : Nat) (i : Int), Strict (fun r => r = (0, 0, 41)) (freeM N k i)
  | 0, i => trivial
  | k + 1, i => by
    simp only [freeM]
    split
    · trivial
    · refine ⟨⟨_, rfl, rfl⟩, fun x e => ?_⟩; dsimp only
      split
      · split
        · trivial
        · exact strict_free k (i + 1)
      · trivial
theorem strict_new {N : Int} {v : Num} : Strict (fun r => r = ((0, 0), 41)) (newM N v) := by
  unfold newM
  split
  · refine Strict.bind ?_ (fun a => ?_) _ (strict_free _ _)
    · rintro a rfl; exact ⟨_, rfl, rfl⟩
    split
    · refine ⟨⟨_, rfl, rfl⟩, fun e => ?_⟩; dsimp only
      split
      · refine ⟨⟨_, rfl, rfl⟩, fun e => ?_⟩; dsimp only
        split <;> trivial
      · trivial
    · trivial
  · trivial
theorem strict_good {N : Int} {h : Num} : Strict (fun r => r = 41) (goodH N h) := by
  unfold goodH
  split
  · trivial
  · refine ⟨⟨_, rfl, rfl⟩, fun x e => ?_⟩; dsimp only
    split
    · split <;> trivial
    · trivial
theorem strict_del {N : Int} {h : Num} : Strict (fun r => r = 41) (delM N h) := by
  unfold delM
  refine Strict.bind ?_ (fun a => ?_) _ strict_good
  · rintro a rfl; exact ⟨_, rfl, rfl⟩
  split
  · exact ⟨⟨_, rfl, rfl⟩, fun e => trivial⟩
  · trivial
theorem strict_load {N : Int} {h : Num} : Strict (fun r => r.2 = 41 ∧ r.1 = (0, 0)) (loadM N h) := by
  unfold loadM
  refine Strict.bind ?_ (fun a => ?_) _ strict_good
  · rintro a rfl; exact ⟨_, rfl, rfl, rfl⟩
  split
  · exact ⟨⟨_, rfl, rfl, rfl⟩, fun _ _ => trivial⟩
  · trivial
theorem strict_store {N : Int} {h v : Num} : Strict (fun r => r = 41) (storeM N h v) := by
  unfold storeM
  split
  · refine Strict.bind ?_ (fun a => ?_) _ strict_good
    · rintro a rfl; exact ⟨_, rfl, rfl⟩
    split
    · exact ⟨⟨_, rfl, rfl⟩, fun e => trivial⟩
    · trivial
  · trivial
theorem strict_count : ∀ (k : Nat) (i n : Int), Strict (fun r => r = (0, 41)) (countM k i n)
  | 0, i, n => trivial
  | k + 1, i, n => by
    simp only [countM]
    refine ⟨⟨_, rfl, rfl⟩, fun x e => ?_⟩; dsimp only
    split
    · exact strict_count k (i + 1) _
    · trivial
theorem strict_once {N k : Int} {h v : Num} : Strict (fun r => r.2 = 41 ∧ r.1 = (0, 0)) (onceM N k h v) := by
  have conv : ∀ (p : MP (Num × Int)), Strict (fun r => r = ((0, 0), 41)) p → Strict (fun r => r.2 = 41 ∧ r.1 = (0, 0)) p := by
    intro p
    induction p with
    | ret a => exact fun _ => trivial
    | rd i k ih => exact fun ⟨⟨a, h1, h2⟩, h3⟩ => ⟨⟨a, h1, by subst h2; exact ⟨rfl, rfl⟩⟩, fun x e => ih x e (h3 x e)⟩
    | wr i v k ih => exact fun ⟨⟨a, h1, h2⟩, h3⟩ => ⟨⟨a, h1, by subst h2; exact ⟨rfl, rfl⟩⟩, fun e => ih e (h3 e)⟩
  unfold onceM
  split
  · exact conv _ strict_new
  split
  · refine Strict.bind ?_ (fun a => ?_) _ strict_del
    rotate_left
    · trivial
    rintro a rfl; exact ⟨_, rfl, rfl, rfl⟩
  split
  · exact strict_load
  split
  · refine Strict.bind ?_ (fun a => ?_) _ strict_store
    rotate_left
    · trivial
    rintro a rfl; exact ⟨_, rfl, rfl, rfl⟩
  · refine Strict.bind ?_ (fun a => ?_) _ (strict_count _ _ _)
    rotate_left
    · trivial
    rintro a rfl; exact ⟨_, rfl, rfl, rfl⟩
end Go.Ev
