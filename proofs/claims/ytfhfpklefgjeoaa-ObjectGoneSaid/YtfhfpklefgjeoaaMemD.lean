/- What the document says of an act on memory. Conditions: none. -/
import Derived.Test.YtfhfpklefgjeoaaMemC
namespace Go.Ev
open Go Go.Proofs
set_option maxRecDepth 10000

abbrev Act2 := Bool × Int × Num
def encA2 (x : Act2) : List Value := [.bool x.1, .int .i64 x.2.1, .int .i64 x.2.2.1, .int .i64 x.2.2.2]
def vA2 (x : Act2) : Value := .agg #[.bool x.1, .int .i64 x.2.1, .int .i64 x.2.2.1, .int .i64 x.2.2.2]
def at2 (f n : Int) : Value := .agg #[.int .i64 f, .int .i64 n]
def wantI (f n i : Int) : Int := if 0 ≤ i ∧ i < n then f + i else -1
def wantL (l : List Num) (f n : Int) (x : Act2) : List Num := if x.1 then (wrN l (wantI f n x.2.1) x.2.2).1 else l
def wantX (l : List Num) (f n : Int) (x : Act2) : Num := if x.1 then (0, 0) else (rdN l (wantI f n x.2.1)).1
def wantE (l : List Num) (f n : Int) (x : Act2) : Int := if x.1 then (wrN l (wantI f n x.2.1) x.2.2).2 else (rdN l (wantI f n x.2.1)).2
theorem wantL_len (l : List Num) (f n : Int) (x : Act2) : (wantL l f n x).length = l.length := by unfold wantL; split <;> simp [wrN_len]

theorem want_any (x : Act2) {f n : Int} (hf : 0 ≤ f) (hn : f + n ≤ 9223372036854775807) {a : Option Addr} {c : Nat} {l : List Num} (hl : l.length ≤ 4294967296) : ∀ β w As, Sat β w As → Rds β As 2 encN a l →
    Calls Try.prog 18 #[.slice a l.length c, at2 f n, vA2 x] w fun e w' => ∃ a' c', e = .returned (.tuple #[.slice a' (wantL l f n x).length c', vN (wantX l f n x), .int .i64 (wantE l f n x)]) ∧ Fresh β w' As a c l a' c' (wantL l f n x) := by
  intro β w As h hr
  obtain ⟨wr, i, v⟩ := x
  refine calls_W (args := [.slice a l.length c, at2 f n, vA2 (wr, i, v)]) Try.func18 rfl rfl rfl ?_
  conv => whnf
  repeat (first | (refine CW.run rfl ?_; conv => whnf) | (refine CW.go ?_; conv => whnf) | (refine Wr.any ?_; conv => whnf))
  refine h.newK fun B w h => ?_
  conv => whnf
  repeat (first | (refine CW.run rfl ?_; conv => whnf) | (refine CW.go ?_; conv => whnf) | (refine Wr.any ?_; conv => whnf))
  refine h.newK fun C w h => ?_
  conv => whnf
  repeat (first | (refine CW.run rfl ?_; conv => whnf) | (refine CW.go ?_; conv => whnf) | (refine Wr.any ?_; conv => whnf))
  refine h.newK fun D w h => ?_
  conv => whnf
  repeat (first | (refine CW.run rfl ?_; conv => whnf) | (refine Wr.any ?_; conv => whnf))
  refine CW.join [0, 5, 7, 9] (fun vs w => vs = [.slice a l.length c, ptr C, ptr D, .int .i64 (wantI f n i)] ∧ Sat β w (row D 33 [.int .i64 0, .int .i64 0] :: row C 35 [.bool wr, .int .i64 i, .int .i64 v.1, .int .i64 v.2] :: As)) ?_ ?_
  · conv => whnf
    repeat (first | (refine CW.run rfl ?_; conv => whnf) | (refine CW.go ?_; conv => whnf) | (refine Wr.any ?_; conv => whnf))
    refine h.ld 1 rfl rfl ?_
    conv => whnf
    repeat (first | (refine CW.run rfl ?_; conv => whnf) | (refine CW.go ?_; conv => whnf) | (refine Wr.any ?_; conv => whnf))
    refine sel_mk (fun h1 => ?_) (fun h1 => ?_)
    · conv => whnf
      repeat (first | (refine CW.run rfl ?_; conv => whnf) | (refine CW.go ?_; conv => whnf) | (refine Wr.any ?_; conv => whnf))
      refine h.ld 1 rfl rfl ?_
      conv => whnf
      repeat (first | (refine CW.run rfl ?_; conv => whnf) | (refine CW.go ?_; conv => whnf) | (refine Wr.any ?_; conv => whnf))
      refine Chk.mk (by decide) ?_
      conv => whnf
      repeat (first | (refine CW.run rfl ?_; conv => whnf) | (refine CW.go ?_; conv => whnf) | (refine Wr.any ?_; conv => whnf))
      refine h.ld 2 rfl rfl ?_
      conv => whnf
      repeat (first | (refine CW.run rfl ?_; conv => whnf) | (refine CW.go ?_; conv => whnf) | (refine Wr.any ?_; conv => whnf))
      refine sel_mk (fun h2 => ?_) (fun h2 => ?_)
      · conv => whnf
        repeat (first | (refine CW.run rfl ?_; conv => whnf) | (refine CW.go ?_; conv => whnf) | (refine Wr.any ?_; conv => whnf))
        refine Chk.mk (by decide) ?_
        conv => whnf
        repeat (first | (refine CW.run rfl ?_; conv => whnf) | (refine CW.go ?_; conv => whnf) | (refine Wr.any ?_; conv => whnf))
        refine h.ld 2 rfl rfl ?_
        conv => whnf
        repeat (first | (refine CW.run rfl ?_; conv => whnf) | (refine CW.go ?_; conv => whnf) | (refine Wr.any ?_; conv => whnf))
        refine h.ld 1 rfl rfl ?_
        simp at h1 h2
        have e : IntKind.i64.wrap (f + i) = wantI f n i := by rw [wantI, if_pos ⟨h1, h2⟩]; exact wr64 (by omega) (by omega)
        conv => whnf
        repeat (first | (refine CW.run rfl ?_; conv => whnf) | (refine CW.go ?_; conv => whnf) | (refine Wr.any ?_; conv => whnf))
        exact ⟨by rw [← e], h.f2.tail⟩
      · conv => whnf
        repeat (first | (refine CW.run rfl ?_; conv => whnf) | (refine CW.go ?_; conv => whnf) | (refine Wr.any ?_; conv => whnf))
        exact ⟨by rw [wantI, if_neg (by simp at h2; omega)], h.f2.tail⟩
    · conv => whnf
      repeat (first | (refine CW.run rfl ?_; conv => whnf) | (refine CW.go ?_; conv => whnf) | (refine Wr.any ?_; conv => whnf))
      exact ⟨by rw [wantI, if_neg (by simp at h1; omega)], h.f2.tail⟩
  rintro _ w ⟨rfl, h⟩
  conv => whnf
  repeat (first | (refine CW.run rfl ?_; conv => whnf) | (refine CW.go ?_; conv => whnf) | (refine Wr.any ?_; conv => whnf))
  refine h.ld 1 rfl rfl ?_
  cases wr with
  | true =>
    have m := ref2Write_any (wantI f n i) v (a := a) (c := c) hl β
    have e1 : wantL l f n (true, i, v) = (wrN l (wantI f n i) v).1 := rfl
    have e2 : wantX l f n (true, i, v) = (0, 0) := rfl
    have e3 : wantE l f n (true, i, v) = (wrN l (wantI f n i) v).2 := rfl
    rw [e1, e2, e3]
    generalize wantI f n i = I at m
    conv => whnf
    repeat (first | (refine CW.run rfl ?_; conv => whnf) | (refine CW.go ?_; conv => whnf) | (refine Wr.any ?_; conv => whnf))
    refine h.ldN 1 rfl _ rfl rfl ?_
    conv => whnf
    repeat (first | (refine CW.run rfl ?_; conv => whnf) | (refine CW.go ?_; conv => whnf) | (refine Wr.any ?_; conv => whnf))
    refine CallF.ret (m w _ h hr.cons.cons) (Try.call57 _ _) ?_
    rintro _ w ⟨a', c', rfl, h⟩
    refine ⟨_, rfl, ?_⟩
    rcases h with ⟨ea, ec, el, h⟩ | h
    · rw [ea, ec, el]
      conv => whnf
      repeat (first | (refine CW.run rfl ?_; conv => whnf) | (refine CW.go ?_; conv => whnf) | (refine Wr.any ?_; conv => whnf))
      refine h.store 0 rfl rfl rfl rfl rfl ?_
      conv => whnf
      repeat (refine Wr.any ?_; conv => whnf)
      intro w h
      conv => whnf
      repeat (first | (refine CW.run rfl ?_; conv => whnf) | (refine CW.go ?_; conv => whnf) | (refine Wr.any ?_; conv => whnf))
      refine h.ldN 0 rfl _ rfl rfl ?_
      conv => whnf
      repeat (refine Wr.any ?_; conv => whnf)
      exact ⟨a, c, rfl, .inl ⟨rfl, rfl, rfl, h.tail.tail⟩⟩
    · conv => whnf
      repeat (first | (refine CW.run rfl ?_; conv => whnf) | (refine CW.go ?_; conv => whnf) | (refine Wr.any ?_; conv => whnf))
      refine h.store 1 rfl rfl rfl rfl rfl ?_
      conv => whnf
      repeat (refine Wr.any ?_; conv => whnf)
      intro w h
      conv => whnf
      repeat (first | (refine CW.run rfl ?_; conv => whnf) | (refine CW.go ?_; conv => whnf) | (refine Wr.any ?_; conv => whnf))
      refine h.ldN 1 rfl _ rfl rfl ?_
      conv => whnf
      repeat (refine Wr.any ?_; conv => whnf)
      exact ⟨a', c', rfl, .inr h.f1.tail.f1.tail⟩
  | false =>
    have m := ref2Read_any (wantI f n i) (a := a) (c := c) (l := l) β
    have e1 : wantL l f n (false, i, v) = l := rfl
    have e2 : wantX l f n (false, i, v) = (rdN l (wantI f n i)).1 := rfl
    have e3 : wantE l f n (false, i, v) = (rdN l (wantI f n i)).2 := rfl
    rw [e1, e2, e3]
    generalize wantI f n i = I at m
    generalize rdN l I = r at m
    conv => whnf
    repeat (first | (refine CW.run rfl ?_; conv => whnf) | (refine CW.go ?_; conv => whnf) | (refine Wr.any ?_; conv => whnf))
    refine CallF.val (m w _ h hr.cons.cons) (Try.call58 _ _) fun w h => ?_
    conv => whnf
    repeat (first | (refine CW.run rfl ?_; conv => whnf) | (refine CW.go ?_; conv => whnf) | (refine Wr.any ?_; conv => whnf))
    refine h.newK fun E w h => ?_
    conv => whnf
    repeat (first | (refine CW.run rfl ?_; conv => whnf) | (refine CW.go ?_; conv => whnf) | (refine Wr.any ?_; conv => whnf))
    refine h.store 0 rfl rfl rfl rfl rfl ?_
    conv => whnf
    repeat (refine Wr.any ?_; conv => whnf)
    intro w h
    conv => whnf
    repeat (first | (refine CW.run rfl ?_; conv => whnf) | (refine CW.go ?_; conv => whnf) | (refine Wr.any ?_; conv => whnf))
    refine CW.draw [(0, 0), (1, 4), (2, 0), (3, 0), (4, 3), (5, 0)] rfl (by kernel_rfl) (fun _ => True) (fun w e1 e2 e3 e4 => ⟨trivial, ?_⟩)
    replace h := h.draw e1 e2 e3 e4
    clear e1 e2 e3 e4
    conv => whnf
    repeat (first | (refine CW.run rfl ?_; conv => whnf) | (refine CW.go ?_; conv => whnf) | (refine Wr.any ?_; conv => whnf))
    refine h.ldN 0 rfl _ rfl rfl ?_
    conv => whnf
    repeat (first | (refine CW.run rfl ?_; conv => whnf) | (refine CW.go ?_; conv => whnf) | (refine Wr.any ?_; conv => whnf))
    refine h.store 1 rfl rfl rfl rfl rfl ?_
    conv => whnf
    repeat (refine Wr.any ?_; conv => whnf)
    intro w h
    conv => whnf
    repeat (first | (refine CW.run rfl ?_; conv => whnf) | (refine CW.go ?_; conv => whnf) | (refine Wr.any ?_; conv => whnf))
    refine h.ldN 1 rfl _ rfl rfl ?_
    conv => whnf
    repeat (refine Wr.any ?_; conv => whnf)
    exact ⟨a, c, rfl, .inl ⟨rfl, rfl, rfl, h.tail.tail.tail⟩⟩
end Go.Ev
