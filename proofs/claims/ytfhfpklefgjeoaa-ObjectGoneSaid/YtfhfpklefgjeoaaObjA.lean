/- Things that come and go. Conditions: none. -/
import Derived.Test.YtfhfpklefgjeoaaMP
namespace Go.Ev
open Go Go.Proofs
set_option maxRecDepth 10000

/-- The first thing that may be used: its number, its age. -/
def freeM (N : Int) : Nat → Int → MP (Int × Int × Int)
  | 0, _ => .ret (0, 0, 31)
  | k + 1, i => if N ≤ 2 * i + 1 then .ret (0, 0, 31) else .rd (2 * i) fun c e => if e = 0 then (if c.2 = 0 ∧ c.1 < 1048576 then .ret (i, c.1, 0) else freeM N k (i + 1)) else .ret (0, 0, e)

section
variable {σ : Type} {T : Nat} {u : Value} {R : σ → Asrt} {rd : σ → Int → (Num × Int) × σ} {wr : σ → Int → Num → Int × σ} {sz : σ → Int} {I : σ → Prop} {N : Int}
variable (M : MemP T u R rd wr sz) (G : GoodM rd wr sz I N)
include M G
theorem free_any : Does T u R rd wr I 74 [] (freeM N N.toNat 0) (fun r => .tuple #[.int .i64 r.1, .int .i64 r.2.1, .int .i64 r.2.2]) := by
  intro β w As s h hI
  refine calls_W (args := [.iface T u]) Try.func74 rfl rfl rfl ?_
  have := G.pos
  have := G.le
  conv => whnf
  skip
  refine CW.scope1 0 [0, 5] (fun m vs w => ∃ (k : Nat) (i : Int) (s' : σ), m = k ∧ 0 ≤ i ∧ i ≤ N ∧ N ≤ 2 * i + 1 + 2 * k ∧ I s' ∧ vs = [.iface T u, .int .i64 i] ∧ Sat β w (R s' :: As) ∧ (freeM N k i).run rd wr s' = (freeM N N.toNat 0).run rd wr s) rfl ?_ ?_
  · conv => whnf
    skip
    exact ⟨_, N.toNat, 0, s, rfl, by omega, by omega, by omega, hI, rfl, h, rfl⟩
  generalize (freeM N N.toNat 0).run rd wr s = res
  clear h hI
  rintro k _ w ⟨_, i, s, rfl, h0, hN, hk, hI, rfl, h, hres⟩
  conv => whnf
  repeat (first | ((with_reducible refine CW.is ?_); refine CW.go ?_; conv => whnf) | ((with_reducible refine Wr.is ?_); refine Wr.i64 (by omega) (by omega) ?_; conv => whnf))
  refine M.size β w _ s _ h fun w h => ?_
  rw [G.size s hI]
  conv => whnf
  repeat (first | ((with_reducible refine CW.is ?_); refine CW.run rfl ?_; conv => whnf))
  refine sel_mk (fun h1 => ?_) (fun h1 => ?_)
  · have h1 : N ≤ 2 * i + 1 := by simpa using h1
    conv => whnf
    repeat (first | ((with_reducible refine CW.is ?_); refine CW.run rfl ?_; conv => whnf))
    have e : (freeM N k i).run rd wr s = ((0, 0, 31), s) := by
      cases k with
      | zero => rfl
      | succ k => simp only [freeM]; rw [if_pos h1]; rfl
    rw [e] at hres
    subst hres
    exact ⟨rfl, h⟩
  have h1 : ¬ N ≤ 2 * i + 1 := by simpa using h1
  obtain ⟨k, rfl⟩ : ∃ k', k = k' + 1 := ⟨k - 1, by omega⟩
  have e : (freeM N (k + 1) i).run rd wr s = (if (rd s (2 * i)).1.2 = 0 then (if (rd s (2 * i)).1.1.2 = 0 ∧ (rd s (2 * i)).1.1.1 < 1048576 then MP.ret (i, (rd s (2 * i)).1.1.1, 0) else freeM N k (i + 1)) else .ret (0, 0, (rd s (2 * i)).1.2)).run rd wr (rd s (2 * i)).2 := by
    simp only [freeM]; rw [if_neg h1]; rfl
  rw [e] at hres
  clear e
  have g := G.rd s (2 * i) hI
  conv => whnf
  repeat (first | ((with_reducible refine CW.is ?_); refine CW.run rfl ?_; conv => whnf) | ((with_reducible refine Wr.is ?_); refine Wr.i64 (by omega) (by omega) ?_; conv => whnf))
  refine M.read β w _ s (2 * i) _ h fun w h => ?_
  generalize rd s (2 * i) = r at h hres g
  obtain ⟨⟨⟨c1, c2⟩, e⟩, s'⟩ := r
  dsimp only at hres g h
  have gr := rightN_iff.1 g.2
  conv => whnf
  repeat (first | ((with_reducible refine CW.is ?_); (first | refine CW.run rfl ?_ | refine CW.go ?_); conv => whnf) | ((with_reducible refine New.is ?_); refine Sat.newK h fun b w h => ?_; conv => whnf) | ((with_reducible refine Runs.is ?_); refine Sat.store 0 h rfl rfl rfl rfl rfl ?_; (conv => whnf); intro w h; (conv => whnf)))
  refine sel_mk (fun h2 => ?_) (fun h2 => ?_)
  · have h2 : e ≠ 0 := by simpa using h2
    conv => whnf
    repeat (first | ((with_reducible refine CW.is ?_); refine CW.run rfl ?_; conv => whnf))
    rw [if_neg h2] at hres
    subst hres
    exact ⟨rfl, h.tail⟩
  have h2 : e = 0 := by simpa using h2
  subst h2
  conv => whnf
  repeat (first | ((with_reducible refine CW.is ?_); (first | refine CW.run rfl ?_ | refine CW.go ?_); conv => whnf) | ((with_reducible refine Ld.is ?_); refine Sat.ld 0 h rfl rfl ?_; conv => whnf))
  refine sel_mk (fun h3 => ?_) (fun h3 => ?_)
  · have h3 : c2 ≠ 0 := by simpa using h3
    conv => whnf
    repeat (first | ((with_reducible refine CW.is ?_); refine CW.run rfl ?_; conv => whnf) | ((with_reducible refine Wr.is ?_); refine Wr.i64 (by omega) (by omega) ?_; conv => whnf))
    rw [if_pos rfl, if_neg (fun hh => h3 hh.1)] at hres
    exact ⟨_, by omega, k, i + 1, s', rfl, by omega, by omega, by omega, g.1, rfl, h.tail, hres⟩
  have h3 : c2 = 0 := by simpa using h3
  subst h3
  conv => whnf
  repeat (first | ((with_reducible refine CW.is ?_); refine CW.run rfl ?_; conv => whnf) | ((with_reducible refine Ld.is ?_); refine Sat.ld 0 h rfl rfl ?_; conv => whnf))
  refine sel_mk (fun h4 => ?_) (fun h4 => ?_)
  · have h4 : 1048576 ≤ c1 := by simpa using h4
    conv => whnf
    repeat (first | ((with_reducible refine CW.is ?_); refine CW.run rfl ?_; conv => whnf) | ((with_reducible refine Wr.is ?_); refine Wr.i64 (by omega) (by omega) ?_; conv => whnf))
    rw [if_pos rfl, if_neg (fun hh => by omega)] at hres
    exact ⟨_, by omega, k, i + 1, s', rfl, by omega, by omega, by omega, g.1, rfl, h.tail, hres⟩
  have h4 : c1 < 1048576 := by simpa using h4
  conv => whnf
  repeat (first | ((with_reducible refine CW.is ?_); refine CW.run rfl ?_; conv => whnf) | ((with_reducible refine Ld.is ?_); refine Sat.ld 0 h rfl rfl ?_; conv => whnf) | ((with_reducible refine CW.is ?_); refine CW.draw (id := 9) [(0, 0), (1, 0), (2, 4), (3, 0), (4, 0), (5, 0)] rfl (by kernel_rfl) (fun _ => True) (fun w e1 e2 e3 e4 => ⟨trivial, ?_⟩); replace h := h.draw e1 e2 e3 e4; clear e1 e2 e3 e4; (conv => whnf)))
  rw [if_pos rfl, if_pos ⟨rfl, h4⟩] at hres
  subst hres
  exact ⟨rfl, h.tail⟩

omit M in
theorem freeM_ok : ∀ (k : Nat) (i : Int) (s : σ), 0 ≤ i → I s → ((freeM N k i).run rd wr s).1.2.2 = 0 → 0 ≤ ((freeM N k i).run rd wr s).1.1 ∧ 2 * ((freeM N k i).run rd wr s).1.1 + 1 < N ∧ -1048576 ≤ ((freeM N k i).run rd wr s).1.2.1 ∧ ((freeM N k i).run rd wr s).1.2.1 < 1048576
  | 0, i, s, h0, hI, h => by simp [freeM, MP.run] at h
  | k + 1, i, s, h0, hI, h => by
    simp only [freeM] at h ⊢
    split at h
    · simp [MP.run] at h
    · rename_i h1
      rw [if_neg h1]
      have g := G.rd s (2 * i) hI
      simp only [MP.run] at h ⊢
      split at h
      · rename_i h2
        rw [if_pos h2]
        split at h
        · rename_i h3
          rw [if_pos h3]
          have := rightN_iff.1 g.2
          simp only [MP.run]
          omega
        · rename_i h3
          rw [if_neg h3]
          exact freeM_ok k (i + 1) _ (by omega) g.1 h
      · rename_i h2
        simp [MP.run] at h
        exact absurd h h2

/-- A new thing. -/
def newM (N : Int) (v : Num) : MP (Num × Int) :=
  if rightN v then (freeM N N.toNat 0).bind fun r => if r.2.2 = 0 then .wr (2 * r.1) (r.2.1 + 1, 1) fun e => if e = 0 then .wr (2 * r.1 + 1) v fun e => if e = 0 then .ret ((r.1, r.2.1 + 1), 0) else .ret ((0, 0), e) else .ret ((0, 0), e) else .ret ((0, 0), r.2.2)
  else .ret ((0, 0), 1)
theorem newM_any (v : Num) : Does T u R rd wr I 45 [vN v] (newM N v) oNE := by
  refine .mk fun β w F s h hI => ?_
  refine calls_W (args := [.iface T u, vN v]) Try.func45 rfl rfl rfl ?_
  have := G.pos
  have := G.le
  unfold newM
  conv => whnf
  repeat (first | ((with_reducible refine CW.is ?_); refine CW.go ?_; conv => whnf) | ((with_reducible refine New.is ?_); refine Sat.newK h fun b w h => ?_; conv => whnf) | ((with_reducible refine LdN.is ?_); refine Sat.ldN 1 h rfl _ rfl rfl ?_; conv => whnf))
  refine gRight1 h (fun hv w h => ?_) (fun hv w h => ?_)
  rotate_left
  · conv => whnf
    repeat (first | ((with_reducible refine CW.is ?_); refine CW.run rfl ?_; conv => whnf) | ((with_reducible refine LdN.is ?_); refine Sat.ldN 0 h rfl _ rfl rfl ?_; conv => whnf) | ((with_reducible refine Runs.is ?_); refine Sat.store 0 h rfl rfl rfl rfl rfl ?_; (conv => whnf); intro w h; (conv => whnf)))
    rw [if_neg (by simp [hv])]
    exact ⟨rfl, h.keep [2, 3]⟩
  rw [if_pos hv, MP.run_bind]
  have ok := freeM_ok G N.toNat 0 s (by omega) hI
  rcases hr : (freeM N N.toNat 0).run rd wr s with ⟨⟨i, age, e⟩, s'⟩
  rw [hr] at ok
  dsimp only at ok
  have hI := G.runE hr hI
  conv => whnf
  repeat (first | ((with_reducible refine CW.is ?_); refine CW.run rfl ?_; conv => whnf))
  refine Sat.bringK [2, 0, 1, 3] h ?_
  conv => whnf
  clear h; intro h
  refine (free_any M G).callE hr h ‹_› (Try.call74 _ _) fun w h => ?_
  clear hr
  conv => whnf
  repeat (first | ((with_reducible refine CW.is ?_); (first | refine CW.run rfl ?_ | refine CW.go ?_); conv => whnf))
  refine sel_mk (fun h1 => ?_) (fun h1 => ?_)
  · have h1 : e ≠ 0 := by simpa using h1
    conv => whnf
    repeat (first | ((with_reducible refine CW.is ?_); refine CW.run rfl ?_; conv => whnf) | ((with_reducible refine LdN.is ?_); refine Sat.ldN 1 h rfl _ rfl rfl ?_; conv => whnf) | ((with_reducible refine Runs.is ?_); refine Sat.store 1 h rfl rfl rfl rfl rfl ?_; (conv => whnf); intro w h; (conv => whnf)))
    rw [if_neg h1]
    exact ⟨rfl, h.keep [0, 3]⟩
  obtain rfl : e = 0 := by simpa using h1
  have ok := ok rfl
  rcases hr : wr s' (2 * i) (age + 1, 1) with ⟨e, s2⟩
  have hI := G.wrE hr hI
  rw [if_pos rfl]
  simp only [MP.run, hr]
  conv => whnf
  repeat (first | ((with_reducible refine CW.is ?_); refine CW.run rfl ?_; conv => whnf) | ((with_reducible refine Wr.is ?_); refine Wr.i64 (by omega) (by omega) ?_; conv => whnf))
  refine M.wrE hr h fun w h => ?_
  conv => whnf
  repeat (first | ((with_reducible refine CW.is ?_); refine CW.run rfl ?_; conv => whnf))
  refine sel_mk (fun h1 => ?_) (fun h1 => ?_)
  · have h1 : e ≠ 0 := by simpa using h1
    conv => whnf
    repeat (first | ((with_reducible refine CW.is ?_); refine CW.run rfl ?_; conv => whnf) | ((with_reducible refine LdN.is ?_); refine Sat.ldN 1 h rfl _ rfl rfl ?_; conv => whnf) | ((with_reducible refine Runs.is ?_); refine Sat.store 1 h rfl rfl rfl rfl rfl ?_; (conv => whnf); intro w h; (conv => whnf)))
    rw [if_neg h1]
    exact ⟨rfl, h.keep [0, 3]⟩
  obtain rfl : e = 0 := by simpa using h1
  clear hr
  rcases hr : wr s2 (2 * i + 1) v with ⟨e, s3⟩
  rw [if_pos rfl]
  simp only [MP.run, hr]
  conv => whnf
  repeat (first | ((with_reducible refine CW.is ?_); refine CW.run rfl ?_; conv => whnf) | ((with_reducible refine Wr.is ?_); refine Wr.i64 (by omega) (by omega) ?_; conv => whnf) | ((with_reducible refine LdN.is ?_); refine Sat.ldN 2 h rfl _ rfl rfl ?_; conv => whnf))
  refine M.wrE hr h fun w h => ?_
  conv => whnf
  repeat (first | ((with_reducible refine CW.is ?_); refine CW.run rfl ?_; conv => whnf))
  refine sel_mk (fun h1 => ?_) (fun h1 => ?_)
  · have h1 : e ≠ 0 := by simpa using h1
    conv => whnf
    repeat (first | ((with_reducible refine CW.is ?_); refine CW.run rfl ?_; conv => whnf) | ((with_reducible refine LdN.is ?_); refine Sat.ldN 1 h rfl _ rfl rfl ?_; conv => whnf) | ((with_reducible refine Runs.is ?_); refine Sat.store 1 h rfl rfl rfl rfl rfl ?_; (conv => whnf); intro w h; (conv => whnf)))
    rw [if_neg h1]
    exact ⟨rfl, h.keep [0, 3]⟩
  obtain rfl : e = 0 := by simpa using h1
  rw [if_pos rfl]
  conv => whnf
  repeat (first | ((with_reducible refine CW.is ?_); refine CW.run rfl ?_; conv => whnf) | ((with_reducible refine Wr.is ?_); refine Wr.i64 (by omega) (by omega) ?_; conv => whnf) | ((with_reducible refine LdN.is ?_); refine Sat.ldN 1 h rfl _ rfl rfl ?_; conv => whnf) | ((with_reducible refine Runs.is ?_); refine Sat.store 1 h rfl rfl rfl rfl rfl ?_; (conv => whnf); intro w h; (conv => whnf)))
  exact ⟨rfl, h.keep [0, 3]⟩

/-- Whether a handle is good: an error, if it isn't. -/
def goodH (N : Int) (h : Num) : MP Int := if h.1 < 0 ∨ N / 2 ≤ h.1 then .ret 32 else .rd (2 * h.1) fun c e => if e = 0 then (if c.2 = 0 ∨ c.1 ≠ h.2 then .ret 32 else .ret 0) else .ret e
def delM (N : Int) (h : Num) : MP Int := (goodH N h).bind fun e => if e = 0 then .wr (2 * h.1) (h.2, 0) .ret else .ret e
def loadM (N : Int) (h : Num) : MP (Num × Int) := (goodH N h).bind fun e => if e = 0 then .rd (2 * h.1 + 1) fun x e => .ret (x, e) else .ret ((0, 0), e)
def storeM (N : Int) (h v : Num) : MP Int := if rightN v then (goodH N h).bind fun e => if e = 0 then .wr (2 * h.1 + 1) v .ret else .ret e else .ret 1
def countM : Nat → Int → Int → MP (Int × Int)
  | 0, _, n => .ret (n, 0)
  | k + 1, i, n => .rd (2 * i) fun c e => if e = 0 then countM k (i + 1) (if c.2 = 0 then n else n + 1) else .ret (0, e)
omit M G in
theorem div2 {n : Int} (h0 : 0 ≤ n) (h1 : n ≤ 4096) : IntKind.i64.wrap (n.tdiv 2) = n / 2 := by
  rw [Int.tdiv_eq_ediv_of_nonneg h0, wr64 (by omega) (by omega)]
omit M in
theorem goodH_ok (h : Num) (s : σ) (he : ((goodH N h).run rd wr s).1 = 0) : 0 ≤ h.1 ∧ 2 * h.1 + 1 < N := by
  have := G.pos
  unfold goodH at he
  split at he
  · simp [MP.run] at he
  · omega

theorem goodH_any (x : Num) : Does T u R rd wr I 75 [vN x] (goodH N x) oE := by
  refine .mk fun β w F s h hI => ?_
  refine calls_W (args := [.iface T u, vN x]) Try.func75 rfl rfl rfl ?_
  have := G.pos
  have := G.le
  unfold goodH
  conv => whnf
  repeat (first | ((with_reducible refine CW.is ?_); (first | refine CW.run rfl ?_ | refine CW.go ?_); conv => whnf) | ((with_reducible refine New.is ?_); refine Sat.newK h fun b w h => ?_; conv => whnf))
  refine CW.draw (id := 3) [(0, 0), (1, 4), (2, 0), (3, 0), (4, 0), (5, 1), (6, 0), (7, 2), (8, 0), (9, 0), (10, 0)] rfl (by kernel_rfl) (fun u => Sat β u [row b 33 [.int .i64 x.1, .int .i64 x.2], R s, F]) (fun w e1 e2 e3 e4 => ⟨(h.draw e1 e2 e3 e4), ?_⟩)
  replace h := h.draw e1 e2 e3 e4
  clear e1 e2 e3 e4
  conv => whnf
  repeat (first | ((with_reducible refine Ld.is ?_); refine Sat.ld 0 h rfl rfl ?_; conv => whnf))
  refine sel_mk (fun h1 => ?_) (fun h1 => ?_)
  · have h1 : x.1 < 0 := by simpa using h1
    conv => whnf
    repeat (first | ((with_reducible refine CW.is ?_); refine CW.run rfl ?_; conv => whnf))
    rw [if_pos (.inl h1)]
    exact ⟨rfl, h.keep [1, 2]⟩
  have h1 : ¬ x.1 < 0 := by simpa using h1
  conv => whnf
  repeat (first | ((with_reducible refine LdG.is ?_); refine Sat.ldG 0 rfl rfl ?_; conv => whnf))
  refine Sat.bringK [1, 0, 2] h ?_
  conv => whnf
  clear h; intro h
  refine M.szE G hI h fun w h => ⟨h.bring [1, 0, 2], ?_⟩
  conv => whnf
  repeat (first | ((with_reducible refine CW.is ?_); refine CW.run rfl ?_; conv => whnf) | ((with_reducible refine Wr.is ?_); refine Wr.any ?_; conv => whnf) | ((with_reducible refine Chk.is ?_); refine Chk.mk (by decide) ?_; conv => whnf))
  rw [div2 (by omega) (by omega)]
  refine sel_mk (fun h2 => ?_) (fun h2 => ?_)
  · have h2 : N / 2 ≤ x.1 := by simpa using h2
    conv => whnf
    repeat (first | ((with_reducible refine CW.is ?_); refine CW.run rfl ?_; conv => whnf))
    rw [if_pos (.inr h2)]
    exact ⟨rfl, h.keep [0, 2]⟩
  have h2 : ¬ N / 2 ≤ x.1 := by simpa using h2
  rw [if_neg (by omega)]
  rcases hr : rd s (2 * x.1) with ⟨⟨c, e⟩, s'⟩
  simp only [MP.run, hr]
  conv => whnf
  repeat (first | ((with_reducible refine CW.is ?_); refine CW.run rfl ?_; conv => whnf) | ((with_reducible refine Wr.is ?_); refine Wr.i64 (by omega) (by omega) ?_; conv => whnf) | ((with_reducible refine Ld.is ?_); refine Sat.ld 1 h rfl rfl ?_; conv => whnf))
  refine M.rdE hr h fun w h => ?_
  conv => whnf
  repeat (first | ((with_reducible refine CW.is ?_); refine CW.go ?_; conv => whnf) | ((with_reducible refine New.is ?_); refine Sat.newK h fun b w h => ?_; conv => whnf) | ((with_reducible refine Runs.is ?_); refine Sat.store 0 h rfl rfl rfl rfl rfl ?_; (conv => whnf); intro w h; (conv => whnf)))
  refine sel_mk (fun h3 => ?_) (fun h3 => ?_)
  rotate_left
  · have h3 : e ≠ 0 := by simpa using h3
    conv => whnf
    repeat (first | ((with_reducible refine CW.is ?_); refine CW.run rfl ?_; conv => whnf))
    rw [if_neg h3]
    exact ⟨rfl, h.keep [1, 3]⟩
  obtain rfl : e = 0 := by simpa using h3
  rw [if_pos rfl]
  conv => whnf
  repeat (first | ((with_reducible refine Ld.is ?_); refine Sat.ld 0 h rfl rfl ?_; conv => whnf))
  refine sel_mk (fun h3 => ?_) (fun h3 => ?_)
  · have h3 : c.2 = 0 := by simpa using h3
    conv => whnf
    repeat (first | ((with_reducible refine CW.is ?_); refine CW.run rfl ?_; conv => whnf))
    rw [if_pos (.inl h3)]
    exact ⟨rfl, h.keep [1, 3]⟩
  have h3 : ¬ c.2 = 0 := by simpa using h3
  conv => whnf
  repeat (first | ((with_reducible refine CW.is ?_); refine CW.run rfl ?_; conv => whnf) | ((with_reducible refine Ld.is ?_); (first | refine Sat.ld 0 h rfl rfl ?_ | refine Sat.ld 2 h rfl rfl ?_); conv => whnf))
  refine sel_mk (fun h4 => ?_) (fun h4 => ?_)
  · have h4 : c.1 ≠ x.2 := by simpa using h4
    conv => whnf
    repeat (first | ((with_reducible refine CW.is ?_); refine CW.run rfl ?_; conv => whnf))
    rw [if_pos (.inr h4)]
    exact ⟨rfl, h.keep [1, 3]⟩
  have h4 : c.1 = x.2 := by simpa using h4
  conv => whnf
  repeat (first | ((with_reducible refine CW.is ?_); refine CW.run rfl ?_; conv => whnf))
  rw [if_neg (by simp [h3, h4])]
  exact ⟨rfl, h.keep [1, 3]⟩

theorem delM_any (x : Num) : Does T u R rd wr I 46 [vN x] (delM N x) oE := by
  refine .mk fun β w F s h hI => ?_
  refine calls_W (args := [.iface T u, vN x]) Try.func46 rfl rfl rfl ?_
  have := G.pos
  have := G.le
  unfold delM
  rw [MP.run_bind]
  have ok := goodH_ok G x s
  rcases hr : (goodH N x).run rd wr s with ⟨e, s'⟩
  rw [hr] at ok
  dsimp only at ok
  have hI2 := G.runE hr hI
  conv => whnf
  repeat (first | ((with_reducible refine CW.is ?_); refine CW.run rfl ?_; conv => whnf) | ((with_reducible refine New.is ?_); refine Sat.newK h fun b w h => ?_; conv => whnf) | ((with_reducible refine LdN.is ?_); refine Sat.ldN 0 h rfl _ rfl rfl ?_; conv => whnf))
  refine Sat.bringK [1, 0, 2] h ?_
  conv => whnf
  clear h; intro h
  refine (goodH_any M G x).callE hr h hI (Try.call75 _ _) fun w h => ?_
  conv => whnf
  repeat (first | ((with_reducible refine CW.is ?_); refine CW.run rfl ?_; conv => whnf))
  refine sel_mk (fun h1 => ?_) (fun h1 => ?_)
  · have h1 : e ≠ 0 := by simpa using h1
    conv => whnf
    repeat (first | ((with_reducible refine CW.is ?_); refine CW.run rfl ?_; conv => whnf))
    rw [if_neg h1]
    exact ⟨rfl, h.keep [0, 2]⟩
  obtain rfl : e = 0 := by simpa using h1
  have ok := ok rfl
  rcases hr : wr s' (2 * x.1) (x.2, 0) with ⟨e, s2⟩
  rw [if_pos rfl]
  simp only [MP.run, hr]
  conv => whnf
  repeat (first | ((with_reducible refine CW.is ?_); refine CW.run rfl ?_; conv => whnf) | ((with_reducible refine Wr.is ?_); refine Wr.i64 (by omega) (by omega) ?_; conv => whnf) | ((with_reducible refine Ld.is ?_); refine Sat.ld 1 h rfl rfl ?_; conv => whnf))
  refine M.wrE hr h fun w h => ?_
  conv => whnf
  repeat (first | ((with_reducible refine CW.is ?_); refine CW.run rfl ?_; conv => whnf))
  exact ⟨rfl, h.keep [0, 2]⟩
theorem loadM_any (x : Num) : Does T u R rd wr I 48 [vN x] (loadM N x) oNE := by
  refine .mk fun β w F s h hI => ?_
  refine calls_W (args := [.iface T u, vN x]) Try.func48 rfl rfl rfl ?_
  have := G.pos
  have := G.le
  unfold loadM
  rw [MP.run_bind]
  have ok := goodH_ok G x s
  rcases hr : (goodH N x).run rd wr s with ⟨e, s'⟩
  rw [hr] at ok
  dsimp only at ok
  have hI2 := G.runE hr hI
  conv => whnf
  repeat (first | ((with_reducible refine CW.is ?_); refine CW.run rfl ?_; conv => whnf) | ((with_reducible refine New.is ?_); refine Sat.newK h fun b w h => ?_; conv => whnf) | ((with_reducible refine LdN.is ?_); refine Sat.ldN 1 h rfl _ rfl rfl ?_; conv => whnf))
  refine Sat.bringK [2, 0, 1, 3] h ?_
  conv => whnf
  clear h; intro h
  refine (goodH_any M G x).callE hr h hI (Try.call75 _ _) fun w h => ?_
  conv => whnf
  repeat (first | ((with_reducible refine CW.is ?_); refine CW.run rfl ?_; conv => whnf))
  refine sel_mk (fun h1 => ?_) (fun h1 => ?_)
  · have h1 : e ≠ 0 := by simpa using h1
    conv => whnf
    repeat (first | ((with_reducible refine CW.is ?_); refine CW.run rfl ?_; conv => whnf) | ((with_reducible refine LdN.is ?_); refine Sat.ldN 1 h rfl _ rfl rfl ?_; conv => whnf) | ((with_reducible refine Runs.is ?_); refine Sat.store 1 h rfl rfl rfl rfl rfl ?_; (conv => whnf); intro w h; (conv => whnf)))
    rw [if_neg h1]
    exact ⟨rfl, h.keep [0, 3]⟩
  obtain rfl : e = 0 := by simpa using h1
  have ok := ok rfl
  rcases hr : rd s' (2 * x.1 + 1) with ⟨⟨c, e⟩, s2⟩
  rw [if_pos rfl]
  simp only [MP.run, hr]
  conv => whnf
  repeat (first | ((with_reducible refine CW.is ?_); refine CW.run rfl ?_; conv => whnf) | ((with_reducible refine Wr.is ?_); refine Wr.i64 (by omega) (by omega) ?_; conv => whnf) | ((with_reducible refine Ld.is ?_); refine Sat.ld 2 h rfl rfl ?_; conv => whnf))
  refine M.rdE hr h fun w h => ?_
  conv => whnf
  repeat (first | ((with_reducible refine CW.is ?_); refine CW.run rfl ?_; conv => whnf) | ((with_reducible refine LdN.is ?_); refine Sat.ldN 1 h rfl _ rfl rfl ?_; conv => whnf) | ((with_reducible refine Runs.is ?_); refine Sat.store 1 h rfl rfl rfl rfl rfl ?_; (conv => whnf); intro w h; (conv => whnf)))
  exact ⟨rfl, h.keep [0, 3]⟩
theorem storeM_any (x v : Num) : Does T u R rd wr I 47 [vN x, vN v] (storeM N x v) oE := by
  refine .mk fun β w F s h hI => ?_
  refine calls_W (args := [.iface T u, vN x, vN v]) Try.func47 rfl rfl rfl ?_
  have := G.pos
  have := G.le
  unfold storeM
  conv => whnf
  repeat (first | ((with_reducible refine CW.is ?_); refine CW.go ?_; conv => whnf) | ((with_reducible refine New.is ?_); refine Sat.newK h fun b w h => ?_; conv => whnf) | ((with_reducible refine LdN.is ?_); refine Sat.ldN 0 h rfl _ rfl rfl ?_; conv => whnf))
  refine gRight1 h (fun hv w h => ?_) (fun hv w h => ?_)
  rotate_left
  · conv => whnf
    repeat (first | ((with_reducible refine CW.is ?_); refine CW.run rfl ?_; conv => whnf))
    rw [if_neg (by simp [hv])]
    exact ⟨rfl, h.keep [2, 3]⟩
  rw [if_pos hv, MP.run_bind]
  have ok := goodH_ok G x s
  rcases hr : (goodH N x).run rd wr s with ⟨e, s'⟩
  rw [hr] at ok
  dsimp only at ok
  have hI2 := G.runE hr hI
  conv => whnf
  repeat (first | ((with_reducible refine CW.is ?_); refine CW.run rfl ?_; conv => whnf) | ((with_reducible refine LdN.is ?_); refine Sat.ldN 1 h rfl _ rfl rfl ?_; conv => whnf))
  refine Sat.bringK [2, 0, 1, 3] h ?_
  conv => whnf
  clear h; intro h
  refine (goodH_any M G x).callE hr h hI (Try.call75 _ _) fun w h => ?_
  conv => whnf
  repeat (first | ((with_reducible refine CW.is ?_); refine CW.run rfl ?_; conv => whnf))
  refine sel_mk (fun h1 => ?_) (fun h1 => ?_)
  · have h1 : e ≠ 0 := by simpa using h1
    conv => whnf
    repeat (first | ((with_reducible refine CW.is ?_); refine CW.run rfl ?_; conv => whnf))
    rw [if_neg h1]
    exact ⟨rfl, h.keep [0, 3]⟩
  obtain rfl : e = 0 := by simpa using h1
  have ok := ok rfl
  rcases hr : wr s' (2 * x.1 + 1) v with ⟨e, s2⟩
  rw [if_pos rfl]
  simp only [MP.run, hr]
  conv => whnf
  repeat (first | ((with_reducible refine CW.is ?_); refine CW.run rfl ?_; conv => whnf) | ((with_reducible refine Wr.is ?_); refine Wr.i64 (by omega) (by omega) ?_; conv => whnf) | ((with_reducible refine Ld.is ?_); refine Sat.ld 2 h rfl rfl ?_; conv => whnf) | ((with_reducible refine LdN.is ?_); refine Sat.ldN 1 h rfl _ rfl rfl ?_; conv => whnf))
  refine M.wrE hr h fun w h => ?_
  conv => whnf
  repeat (first | ((with_reducible refine CW.is ?_); refine CW.run rfl ?_; conv => whnf))
  exact ⟨rfl, h.keep [0, 3]⟩
theorem countM_any : Does T u R rd wr I 49 [] (countM (N / 2).toNat 0 0) (fun r => .tuple #[.int .i64 r.1, .int .i64 r.2]) := by
  refine .mk fun β w F s h hI => ?_
  refine calls_W (args := [.iface T u]) Try.func49 rfl rfl rfl ?_
  have := G.pos
  have := G.le
  conv => whnf
  repeat (first | ((with_reducible refine CW.is ?_); (first | refine CW.run rfl ?_ | refine CW.go ?_); conv => whnf))
  refine M.szE G hI h fun w h => ?_
  conv => whnf
  repeat (first | ((with_reducible refine CW.is ?_); refine CW.run rfl ?_; conv => whnf) | ((with_reducible refine Wr.is ?_); refine Wr.any ?_; conv => whnf) | ((with_reducible refine Chk.is ?_); refine Chk.mk (by decide) ?_; conv => whnf))
  rw [div2 (by omega) (by omega)]
  refine CW.loop [0, 4, 12, 13] (fun m vs w => ∃ (k : Nat) (i n : Int) (s' : σ), m = k ∧ 0 ≤ i ∧ i + k = N / 2 ∧ 0 ≤ n ∧ n ≤ i ∧ I s' ∧ vs = [.iface T u, .int .i64 n, .int .i64 (N / 2), .int .i64 i] ∧ Sat β w [R s', F] ∧ (countM k i n).run rd wr s' = (countM (N / 2).toNat 0 0).run rd wr s) ?_ ?_
  · conv => whnf
    skip
    exact ⟨_, (N / 2).toNat, 0, 0, s, rfl, by omega, by omega, by omega, by omega, hI, rfl, h, rfl⟩
  generalize (countM (N / 2).toNat 0 0).run rd wr s = res
  clear h hI
  rintro k _ w ⟨_, i, n, s, rfl, h0, hk, hn0, hn, hI, rfl, h, hres⟩
  conv => whnf
  repeat (first | ((with_reducible refine CW.is ?_); refine CW.run rfl ?_; conv => whnf))
  refine sel_mk (fun h1 => ?_) (fun h1 => ?_)
  rotate_left
  · have h1 : N / 2 ≤ i := by simpa using h1
    obtain rfl : k = 0 := by omega
    conv => whnf
    repeat (first | ((with_reducible refine CW.is ?_); refine CW.run rfl ?_; conv => whnf))
    subst hres
    exact ⟨rfl, h⟩
  have h1 : i < N / 2 := by simpa using h1
  obtain ⟨k, rfl⟩ : ∃ k', k = k' + 1 := ⟨k - 1, by omega⟩
  rcases hr : rd s (2 * i) with ⟨⟨c, e⟩, s'⟩
  have g := G.rdE hr hI
  simp only [countM, MP.run, hr] at hres
  conv => whnf
  repeat (first | ((with_reducible refine CW.is ?_); (first | refine CW.run rfl ?_ | refine CW.go ?_); conv => whnf) | ((with_reducible refine Wr.is ?_); refine Wr.i64 (by omega) (by omega) ?_; conv => whnf))
  refine M.rdE hr h fun w h => ?_
  conv => whnf
  repeat (first | ((with_reducible refine CW.is ?_); (first | refine CW.run rfl ?_ | refine CW.go ?_); conv => whnf) | ((with_reducible refine New.is ?_); refine Sat.newK h fun b w h => ?_; conv => whnf) | ((with_reducible refine Runs.is ?_); refine Sat.store 0 h rfl rfl rfl rfl rfl ?_; (conv => whnf); intro w h; (conv => whnf)))
  refine sel_mk (fun h2 => ?_) (fun h2 => ?_)
  · have h2 : e ≠ 0 := by simpa using h2
    conv => whnf
    repeat (first | ((with_reducible refine CW.is ?_); refine CW.run rfl ?_; conv => whnf))
    rw [if_neg h2] at hres
    subst hres
    exact ⟨rfl, h.keep [1, 2]⟩
  obtain rfl : e = 0 := by simpa using h2
  rw [if_pos rfl] at hres
  conv => whnf
  repeat (first | ((with_reducible refine CW.is ?_); refine CW.run rfl ?_; conv => whnf) | ((with_reducible refine Ld.is ?_); refine Sat.ld 0 h rfl rfl ?_; conv => whnf))
  refine sel_mk (fun h2 => ?_) (fun h2 => ?_)
  · have h2 : ¬ c.2 = 0 := by simpa using h2
    rw [if_neg h2] at hres
    conv => whnf
    repeat (first | ((with_reducible refine CW.is ?_); refine CW.run rfl ?_; conv => whnf) | ((with_reducible refine Wr.is ?_); refine Wr.i64 (by omega) (by omega) ?_; conv => whnf))
    exact ⟨_, by omega, k, i + 1, n + 1, s', rfl, by omega, by omega, by omega, by omega, g.1, rfl, h.keep [1, 2], hres⟩
  · have h2 : c.2 = 0 := by simpa using h2
    rw [if_pos h2] at hres
    conv => whnf
    repeat (first | ((with_reducible refine CW.is ?_); refine CW.run rfl ?_; conv => whnf) | ((with_reducible refine Wr.is ?_); refine Wr.i64 (by omega) (by omega) ?_; conv => whnf))
    exact ⟨_, by omega, k, i + 1, n, s', rfl, by omega, by omega, by omega, by omega, g.1, rfl, h.keep [1, 2], hres⟩
end
end Go.Ev
