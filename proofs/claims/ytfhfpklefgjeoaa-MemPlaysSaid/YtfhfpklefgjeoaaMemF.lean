/- The law on memories that stop. Conditions: none. -/
import Derived.Test.YtfhfpklefgjeoaaMemE
namespace Go.Ev
open Go Go.Proofs
set_option maxRecDepth 10000

theorem wantI0_rd (l : List Num) (i : Int) : rdN l (wantI 0 l.length i) = rdN l i := by
  unfold wantI
  split
  · rw [Int.zero_add]
  · rw [rdN_out (i := i) (by omega), rdN_out (by omega)]
theorem wantI0_wr (l : List Num) (i : Int) (v : Num) : wrN l (wantI 0 l.length i) v = wrN l i v := by
  unfold wantI
  split
  · rw [Int.zero_add]
  · cases h : rightN v
    · rw [wrN_wrong h, wrN_wrong h]
    · rw [wrN_out h (i := i) (by omega), wrN_out h (by omega)]
/-- What a step of the law leaves, and tells. -/
def nxL (m : Nat) (l : List Num) (x : Act2) : List Num := if m = 0 then l else wantL l 0 l.length x
def nxX (m : Nat) (l : List Num) (x : Act2) : Num := if m = 0 then (0, 0) else wantX l 0 l.length x
def nxE (m : Nat) (l : List Num) (x : Act2) : Int := if m = 0 then 41 else wantE l 0 l.length x
theorem nx_rd (m : Nat) (l : List Num) (i : Int) (v : Num) : rdF rdP (m, l) i = ((nxX m l (false, i, v), nxE m l (false, i, v)), (m - 1, nxL m l (false, i, v))) := by
  unfold rdF nxL nxX nxE
  by_cases h : m = 0
  · subst h; simp
  · simp [h, rdP, wantX, wantE, wantL, wantI0_rd]
theorem nx_wr (m : Nat) (l : List Num) (i : Int) (v : Num) : wrF wrP (m, l) i v = (nxE m l (true, i, v), (m - 1, nxL m l (true, i, v))) := by
  unfold wrF nxL nxE
  by_cases h : m = 0
  · subst h; simp
  · simp [h, wrP, wantE, wantL, wantI0_wr]
theorem nxX_wr (m : Nat) (l : List Num) (i : Int) (v : Num) : nxX m l (true, i, v) = (0, 0) := by
  unfold nxX wantX; split <;> simp
theorem nxL_len (m : Nat) (l : List Num) (x : Act2) : (nxL m l x).length = l.length := by unfold nxL; split <;> simp [wantL_len]

theorem lawMemStops {β : World} {n : Int} (hn : okI n) {a : Option Addr} {c : Nat} {l : List Num} (hl : l.length ≤ 9223372036854775807) (hr : ∀ As, Rds β As 2 encN a l)
    {a2 : Option Addr} {c2 : Nat} {L : List Act2} (hL : L.length ≤ 9223372036854775807) (hr2 : ∀ As, Rds β As 4 encA2 a2 L) :
    ∀ w, Sat β w [] → Calls Try.prog 3 #[.slice a l.length c, .int .i64 n, .slice a2 L.length c2] w fun e w' => e = .returned (.bool true) ∧ Sat β w' [] := by
  intro w h
  refine calls_W (args := [.slice a l.length c, .int .i64 n, .slice a2 L.length c2]) Try.func3 rfl rfl rfl ?_
  have al : ∀ w (K : Value → World → Prop), Sat β w [] → (∀ w', Sat β w' [] → K (.bool true) w') → CallF Try.prog 15 [] w K := fun w K h k => alive2_any.call h (Try.call15 _ _) k
  have r2 := ref2Right_any (c := c) hl β w _ h (hr _)
  generalize e0 : (l.all rightN && decide (l.length ≤ 4096)) = ok at r2
  conv => whnf
  repeat (first | (refine CW.run rfl ?_; conv => whnf) | (refine CW.go ?_; conv => whnf))
  refine CallF.val r2 (Try.call14 _ _) fun w h => ?_
  clear r2
  conv => whnf
  repeat (first | (refine CW.run rfl ?_; conv => whnf) | (refine CW.go ?_; conv => whnf))
  refine sel_mk (fun h1 => ?_) (fun h1 => ?_)
  · conv => whnf
    repeat (first | (refine CW.run rfl ?_; conv => whnf) | (refine CW.go ?_; conv => whnf))
    refine al w _ h fun w h => ?_
    conv => whnf
    repeat (first | (refine CW.run rfl ?_; conv => whnf) | (refine CW.go ?_; conv => whnf))
    exact ⟨rfl, h⟩
  simp at h1; subst h1
  have hok : l.all rightN = true ∧ l.length ≤ 4096 := by simpa [Bool.and_eq_true] using e0
  conv => whnf
  repeat (first | (refine CW.run rfl ?_; conv => whnf) | (refine CW.go ?_; conv => whnf))
  refine sel_mk (fun h1 => ?_) (fun h1 => ?_)
  · conv => whnf
    repeat (first | (refine CW.run rfl ?_; conv => whnf) | (refine CW.go ?_; conv => whnf))
    refine al w _ h fun w h => ?_
    conv => whnf
    repeat (first | (refine CW.run rfl ?_; conv => whnf) | (refine CW.go ?_; conv => whnf))
    exact ⟨rfl, h⟩
  have hs : l.length ≤ 200 := by simp at h1; omega
  conv => whnf
  repeat (first | (refine CW.run rfl ?_; conv => whnf) | (refine CW.go ?_; conv => whnf))
  refine sel_mk (fun h1 => ?_) (fun h1 => ?_)
  · conv => whnf
    repeat (first | (refine CW.run rfl ?_; conv => whnf) | (refine CW.go ?_; conv => whnf))
    refine al w _ h fun w h => ?_
    conv => whnf
    repeat (first | (refine CW.run rfl ?_; conv => whnf) | (refine CW.go ?_; conv => whnf))
    exact ⟨rfl, h⟩
  have hsL : L.length ≤ 200 := by simp at h1; omega
  conv => whnf
  repeat (first | (refine CW.run rfl ?_; conv => whnf) | (refine CW.go ?_; conv => whnf))
  refine CallF.ret (memLoad_any hok.1 hok.2 β w _ h (hr _)) (Try.call16 _ _) ?_
  rintro _ w ⟨p, rfl, h⟩
  refine ⟨_, rfl, ?_⟩
  conv => whnf
  repeat (first | (refine CW.run rfl ?_; conv => whnf) | (refine CW.go ?_; conv => whnf))
  refine CallF.ret (fuse_any (T := 26) (u := ptr p) (R := Plain p) n (by have := hn.2; omega) β w _ h) (Try.call17 _ _) ?_
  rintro _ w ⟨u, rfl, h⟩
  refine ⟨_, rfl, ?_⟩
  conv => whnf
  repeat (first | (refine CW.run rfl ?_; conv => whnf) | (refine CW.go ?_; conv => whnf))
  refine h.newK fun b w h => ?_
  conv => whnf
  repeat (first | (refine CW.run rfl ?_; conv => whnf) | (refine CW.go ?_; conv => whnf))
  have h := h.own_of (sz := 2) (enc := encN) [] rfl (fun _ hx => by cases hx)
  refine Sat.append (l := []) (xs := l) (sz := 2) (enc := encN) h rfl rfl rfl (by decide) rfl rfl rfl (hr _) (fun _ => rfl) (fun _ => rfl) (by show _ * 16 ≤ _; simp; omega) fun a' c' w h => ?_
  simp only [List.nil_append, List.length_nil, Nat.zero_add] at h ⊢
  replace h := h.f1
  conv => whnf
  repeat (first | (refine CW.run rfl ?_; conv => whnf) | (refine CW.go ?_; conv => whnf))
  refine CW.loop [0, 1, 2, 8, 10, 11, 12] (fun m vs w => ∃ (k : Nat) (cur : List Num) (a' : Option Addr) (c' : Nat) (Rest : List Asrt), k ≤ L.length ∧ m = L.length - k ∧ cur.length = l.length ∧
    vs = [.slice a l.length c, .int .i64 n, .slice a2 L.length c2, ptr p, ptr u, .slice a' cur.length c', .int .i64 k] ∧ Sat β w (Fused u 26 (ptr p) (Plain p) (n.toNat - k, cur) :: Rest) ∧ Rds β Rest 2 encN a' cur) ?_ ?_
  · conv => whnf
    repeat (first | (refine CW.run rfl ?_; conv => whnf) | (refine CW.go ?_; conv => whnf))
    exact ⟨_, 0, l, a', c', _, Nat.zero_le _, rfl, rfl, rfl, h, h.tail.rds 0 rfl⟩
  clear h w
  rintro m _ w ⟨k, cur, a', c', Rest, hk, rfl, hcur, rfl, h, hcr⟩
  conv => whnf
  repeat (first | (refine CW.run rfl ?_; conv => whnf) | (refine CW.go ?_; conv => whnf))
  refine sel_mk (fun h1 => ?_) (fun h1 => ?_)
  rotate_left
  · conv => whnf
    repeat (first | (refine CW.run rfl ?_; conv => whnf) | (refine CW.go ?_; conv => whnf))
    refine al w _ h.drop fun w h => ?_
    conv => whnf
    repeat (first | (refine CW.run rfl ?_; conv => whnf) | (refine CW.go ?_; conv => whnf))
    exact ⟨rfl, h⟩
  have hlt : k < L.length := by simpa using h1
  have hx := List.getElem?_eq_getElem hlt
  generalize L[k] = x at hx
  obtain ⟨wr, i, v⟩ := x
  conv => whnf
  repeat (first | (refine CW.run rfl ?_; conv => whnf) | (refine CW.go ?_; conv => whnf))
  refine Chk.mk ⟨by omega, by omega, (hr2 []).okLt hlt⟩ ?_
  conv => whnf
  repeat (first | (refine CW.run rfl ?_; conv => whnf) | (refine CW.go ?_; conv => whnf))
  refine (hr2 _).ldN (i := k) h hx rfl (by simp) ?_
  conv => whnf
  repeat (first | (refine CW.run rfl ?_; conv => whnf) | (refine CW.go ?_; conv => whnf))
  refine h.newK fun A w h => ?_
  conv => whnf
  repeat (first | (refine CW.run rfl ?_; conv => whnf) | (refine CW.go ?_; conv => whnf))
  refine h.store 0 rfl rfl rfl rfl rfl ?_
  conv => whnf
  intro w h
  conv => whnf
  repeat (first | (refine CW.run rfl ?_; conv => whnf) | (refine CW.go ?_; conv => whnf))
  refine h.ldN 0 rfl _ rfl rfl ?_
  conv => whnf
  repeat (first | (refine CW.run rfl ?_; conv => whnf) | (refine CW.go ?_; conv => whnf))
  refine CallF.ret (want_any (wr, i, v) (f := 0) (n := cur.length) (by decide) (by omega) (by omega) β w _ h hcr.cons.cons) (Try.call18 _ _) ?_
  rintro _ w ⟨a'', c'', rfl, h⟩
  refine ⟨_, rfl, ?_⟩
  obtain ⟨Bs, h, hcr'⟩ := h.frame (Gs := [_, _]) hcr
  replace h : Sat β w (row A 35 [.bool wr, .int .i64 i, .int .i64 v.1, .int .i64 v.2] :: Fused u 26 (ptr p) (Plain p) (n.toNat - k, cur) :: (Bs ++ Rest)) := h
  generalize eM : n.toNat - k = M at h
  have wl := wantL_len cur 0 cur.length (wr, i, v)
  generalize eL : wantL cur 0 cur.length (wr, i, v) = wL at hcr' wl
  generalize eX : wantX cur 0 cur.length (wr, i, v) = wX
  generalize eE : wantE cur 0 cur.length (wr, i, v) = wE
  conv => whnf
  repeat (first | (refine CW.run rfl ?_; conv => whnf) | (refine CW.go ?_; conv => whnf))
  refine h.newK fun Y w h => ?_
  conv => whnf
  repeat (first | (refine CW.run rfl ?_; conv => whnf) | (refine CW.go ?_; conv => whnf))
  refine h.store 0 rfl rfl rfl rfl rfl ?_
  conv => whnf
  intro w h
  conv => whnf
  repeat (refine CW.run rfl ?_; conv => whnf)
  refine CW.join [0, 1, 2, 8, 10, 12, 13, 14, 15, 16] (fun vs w => ∃ (a3 : Option Addr) (c3 : Nat) (Rs : List Asrt),
    vs = [.slice a l.length c, .int .i64 n, .slice a2 L.length c2, ptr p, ptr u, .int .i64 k, ptr A, .slice a3 (nxL M cur (wr, i, v)).length c3, ptr Y, .int .i64 (nxE M cur (wr, i, v))] ∧
    Sat β w (row Y 33 [.int .i64 (nxX M cur (wr, i, v)).1, .int .i64 (nxX M cur (wr, i, v)).2] :: row A 35 [.bool wr, .int .i64 i, .int .i64 v.1, .int .i64 v.2] :: Fused u 26 (ptr p) (Plain p) (M, cur) :: Rs) ∧ Rds β Rs 2 encN a3 (nxL M cur (wr, i, v))) ?_ ?_
  · conv => whnf
    repeat (first | (refine CW.run rfl ?_; conv => whnf) | (refine CW.go ?_; conv => whnf))
    refine sel_mk (fun h1 => ?_) (fun h1 => ?_)
    · have hM : M = 0 := by simp at h1; omega
      conv => whnf
      repeat (first | (refine CW.run rfl ?_; conv => whnf) | (refine CW.go ?_; conv => whnf))
      refine h.store 0 rfl rfl rfl rfl rfl ?_
      conv => whnf
      intro w h
      conv => whnf
      repeat (first | (refine CW.run rfl ?_; conv => whnf) | (refine CW.go ?_; conv => whnf))
      have e1 : nxL M cur (wr, i, v) = cur := by unfold nxL; rw [if_pos hM]
      have e2 : nxX M cur (wr, i, v) = (0, 0) := by unfold nxX; rw [if_pos hM]
      have e3 : nxE M cur (wr, i, v) = 41 := by unfold nxE; rw [if_pos hM]
      rw [e1, e2, e3]
      exact ⟨a', c', _, rfl, h, hcr.weak fun _ => Sat.dropL⟩
    · have hM : M ≠ 0 := by simp at h1; omega
      conv => whnf
      repeat (first | (refine CW.run rfl ?_; conv => whnf) | (refine CW.go ?_; conv => whnf))
      have e1 : nxL M cur (wr, i, v) = wL := by unfold nxL; rw [if_neg hM]; exact eL
      have e2 : nxX M cur (wr, i, v) = wX := by unfold nxX; rw [if_neg hM]; exact eX
      have e3 : nxE M cur (wr, i, v) = wE := by unfold nxE; rw [if_neg hM]; exact eE
      rw [e1, e2, e3]
      exact ⟨a'', c'', _, rfl, h, hcr'⟩
  clear h w hcr hcr' eL eX eE wl
  rintro _ w ⟨a3, c3, Rs, rfl, h, hcr⟩
  have nl := nxL_len M cur (wr, i, v)
  have rdE := nx_rd M cur i v
  have wrE := nx_wr M cur i v
  have xwr := nxX_wr M cur i v
  generalize gL : nxL M cur (wr, i, v) = nL at h hcr nl
  generalize gX : nxX M cur (wr, i, v) = nX at h
  generalize gE : nxE M cur (wr, i, v) = nE
  conv => whnf
  repeat (first | (refine CW.run rfl ?_; conv => whnf) | (refine CW.go ?_; conv => whnf))
  refine h.newK fun X w h => ?_
  conv => whnf
  repeat (first | (refine CW.run rfl ?_; conv => whnf) | (refine CW.go ?_; conv => whnf))
  refine h.store 0 rfl rfl rfl rfl rfl ?_
  conv => whnf
  intro w h
  conv => whnf
  repeat (refine CW.run rfl ?_; conv => whnf)
  refine CW.join [0, 1, 2, 8, 10, 11, 12, 15, 16, 17, 18] (fun vs w =>
    vs = [.slice a l.length c, .int .i64 n, .slice a2 L.length c2, ptr p, ptr u, .slice a3 nL.length c3, .int .i64 k, ptr Y, .int .i64 nE, ptr X, .int .i64 nE] ∧
    Sat β w (Fused u 26 (ptr p) (Plain p) (M - 1, nL) :: row X 33 [.int .i64 nX.1, .int .i64 nX.2] :: row Y 33 [.int .i64 nX.1, .int .i64 nX.2] :: Rs)) ?_ ?_
  · cases wr with
    | true =>
      have cc := fun w As h => fwrite_any (b := u) (plainMem p) (x := (M, cur)) i v β w As h
      rw [wrE, gL, gE] at cc
      rw [gX] at xwr
      subst xwr
      conv => whnf
      repeat (first | (refine CW.run rfl ?_; conv => whnf) | (refine CW.go ?_; conv => whnf))
      refine h.ld 2 rfl rfl ?_
      conv => whnf
      repeat (first | (refine CW.run rfl ?_; conv => whnf) | (refine CW.go ?_; conv => whnf))
      refine h.ld 2 rfl rfl ?_
      conv => whnf
      repeat (first | (refine CW.run rfl ?_; conv => whnf) | (refine CW.go ?_; conv => whnf))
      refine h.ldN 2 rfl _ rfl rfl ?_
      conv => whnf
      repeat (first | (refine CW.run rfl ?_; conv => whnf) | (refine CW.go ?_; conv => whnf))
      refine CallF.val (cc w _ (h.front 3 rfl)) (Try.call19 _ _) fun w h => ?_
      conv => whnf
      repeat (first | (refine CW.run rfl ?_; conv => whnf) | (refine CW.go ?_; conv => whnf))
      exact ⟨rfl, (h.front 3 rfl).tail⟩
    | false =>
      have cc := fun w As h => fread_any (b := u) (plainMem p) (x := (M, cur)) i β w As h
      rw [rdE, gL, gE, gX] at cc
      conv => whnf
      repeat (first | (refine CW.run rfl ?_; conv => whnf) | (refine CW.go ?_; conv => whnf))
      refine h.ld 2 rfl rfl ?_
      conv => whnf
      repeat (first | (refine CW.run rfl ?_; conv => whnf) | (refine CW.go ?_; conv => whnf))
      refine h.ld 2 rfl rfl ?_
      conv => whnf
      repeat (first | (refine CW.run rfl ?_; conv => whnf) | (refine CW.go ?_; conv => whnf))
      refine CallF.val (cc w _ (h.front 3 rfl)) (Try.call20 _ _) fun w h => ?_
      conv => whnf
      repeat (first | (refine CW.run rfl ?_; conv => whnf) | (refine CW.go ?_; conv => whnf))
      refine h.store 1 rfl rfl rfl rfl rfl ?_
      conv => whnf
      intro w h
      conv => whnf
      repeat (first | (refine CW.run rfl ?_; conv => whnf) | (refine CW.go ?_; conv => whnf))
      exact ⟨rfl, (h.front 3 rfl).tail⟩
  clear h w rdE wrE xwr
  rintro _ w ⟨rfl, h⟩
  conv => whnf
  repeat (first | (refine CW.run rfl ?_; conv => whnf) | (refine CW.go ?_; conv => whnf))
  refine h.ldN 1 rfl _ rfl rfl ?_
  conv => whnf
  repeat (first | (refine CW.run rfl ?_; conv => whnf) | (refine CW.go ?_; conv => whnf))
  refine h.ldN 2 rfl _ rfl rfl ?_
  conv => whnf
  repeat (first | (refine CW.run rfl ?_; conv => whnf) | (refine CW.go ?_; conv => whnf))
  refine eqN (xs := nX) (ys := nX) ?_
  conv => whnf
  repeat (first | (refine CW.run rfl ?_; conv => whnf) | (refine CW.go ?_; conv => whnf))
  refine sel_false (by simp) ?_
  conv => whnf
  repeat (first | (refine CW.run rfl ?_; conv => whnf) | (refine CW.go ?_; conv => whnf))
  refine sel_false (by simp) ?_
  obtain ⟨hM, h⟩ := Sat.fused.1 h
  conv => whnf
  repeat (first | (refine CW.run rfl ?_; conv => whnf) | (refine CW.go ?_; conv => whnf))
  refine CallF.ret (memAll_any (b := p) (l := nL) (by omega) β w _ h.f1) (Try.call21 _ _) ?_
  rintro _ w ⟨a4, c4, rfl, h⟩
  refine ⟨_, rfl, ?_⟩
  have h : Sat β w (Fused u 26 (ptr p) (Plain p) (M - 1, nL) :: Own 33 2 encN a4 c4 nL :: row X 33 [.int .i64 nX.1, .int .i64 nX.2] :: row Y 33 [.int .i64 nX.1, .int .i64 nX.2] :: Rs) := Sat.fused.2 ⟨hM, (h.front 2 rfl).f2.f1⟩
  conv => whnf
  repeat (refine CW.run rfl ?_; conv => whnf)
  refine CW.join [0, 1, 2, 8, 10, 11, 12, 19, 20] (fun vs w =>
    vs = [.slice a l.length c, .int .i64 n, .slice a2 L.length c2, ptr p, ptr u, .slice a3 nL.length c3, .int .i64 k, .slice a4 nL.length c4, .int .i64 (M - 1 : Nat)] ∧
    Sat β w (Fused u 26 (ptr p) (Plain p) (M - 1, nL) :: Own 33 2 encN a4 c4 nL :: Rs)) ?_ ?_
  · have hk2 := hn.2
    conv => whnf
    repeat (first | (refine CW.run rfl ?_; conv => whnf) | (refine CW.go ?_; conv => whnf))
    refine sel_mk (fun h1 => ?_) (fun h1 => ?_)
    · have h1 : (k : Int) < n := by simpa using h1
      have e : IntKind.i64.wrap (IntKind.i64.wrap (n - k) - 1) = ((M - 1 : Nat) : Int) := by
        rw [wr64 (n := n - k) (by omega) (by omega), wr64 (by omega) (by omega)]; omega
      conv => whnf
      repeat (first | (refine CW.run rfl ?_; conv => whnf) | (refine CW.go ?_; conv => whnf))
      exact ⟨by rw [← e], (h.f2.tail).f2.tail⟩
    · have e : ((M - 1 : Nat) : Int) = 0 := by simp at h1; omega
      conv => whnf
      repeat (first | (refine CW.run rfl ?_; conv => whnf) | (refine CW.go ?_; conv => whnf))
      exact ⟨by rw [e], (h.f2.tail).f2.tail⟩
  rintro _ w ⟨rfl, h⟩
  have hr3 : Rds β (Fused u 26 (ptr p) (Plain p) (M - 1, nL) :: Own 33 2 encN a4 c4 nL :: Rs) 2 encN a3 nL := hcr.cons.cons
  have hr4 : Rds β (Fused u 26 (ptr p) (Plain p) (M - 1, nL) :: Own 33 2 encN a4 c4 nL :: Rs) 2 encN a4 nL := h.rds 1 rfl
  conv => whnf
  repeat (first | (refine CW.run rfl ?_; conv => whnf) | (refine CW.go ?_; conv => whnf))
  refine CallF.val (left_any β w _ h) (Try.call22 _ _) fun w h => ?_
  conv => whnf
  repeat (first | (refine CW.run rfl ?_; conv => whnf) | (refine CW.go ?_; conv => whnf))
  refine sel_false (by simp) ?_
  conv => whnf
  repeat (first | (refine CW.run rfl ?_; conv => whnf) | (refine CW.go ?_; conv => whnf))
  refine CallF.val (fsize_any (plainMem p) β w _ h) (Try.call23 _ _) fun w h => ?_
  conv => whnf
  repeat (first | (refine CW.run rfl ?_; conv => whnf) | (refine CW.go ?_; conv => whnf))
  have es : szF szP (M - 1, nL) = (l.length : Int) := by show (nL.length : Int) = _; omega
  rw [es]
  refine sel_false (by simp) ?_
  conv => whnf
  repeat (first | (refine CW.run rfl ?_; conv => whnf) | (refine CW.go ?_; conv => whnf))
  refine CallF.val (same_any (by omega) β w _ h hr4 hr3) (Try.call24 _ _) fun w h => ?_
  conv => whnf
  repeat (first | (refine CW.run rfl ?_; conv => whnf) | (refine CW.go ?_; conv => whnf))
  refine sel_false (by simp) ?_
  conv => whnf
  repeat (first | (refine CW.run rfl ?_; conv => whnf) | (refine CW.go ?_; conv => whnf))
  refine ⟨_, ?_, k + 1, nL, a3, c3, Own 33 2 encN a4 c4 nL :: Rs, hlt, rfl, by omega, ?_, ?_, hcr.cons⟩
  · omega
  · rw [wr64 (by omega) (by omega)]; rfl
  · rw [show n.toNat - (k + 1) = M - 1 by omega]; exact h
end Go.Ev
