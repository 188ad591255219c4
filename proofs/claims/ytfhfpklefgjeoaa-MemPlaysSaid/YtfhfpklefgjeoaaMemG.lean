/- The law on memories that are read and written. Conditions: none. -/
import Derived.Test.YtfhfpklefgjeoaaMemF
import Derived.Test.YtfhfpklefgjeoaaEvX
namespace Go.Ev
open Go Go.Proofs
set_option maxRecDepth 10000
set_option maxHeartbeats 4000000

def WinO (inb : Bool) (m p : Nat) (f n : Int) : Asrt := match inb with
  | true => winR m 26 (ptr p) f n
  | false => emp
def mV (inb : Bool) (m : Nat) : Value := match inb with
  | true => ptr m
  | false => .pointer none
theorem wantW_rd (l : List Num) (f n i : Int) (v : Num) : rdW rdP f n l i = ((wantX l f n (false, i, v), wantE l f n (false, i, v)), wantL l f n (false, i, v)) := by
  unfold rdW wantX wantE wantL wantI
  by_cases h : 0 ≤ i ∧ i < n
  · simp [h, rdP]
  · simp [h]
    rw [rdN_out (i := -1) (by omega)]; simp
theorem wantW_wr (l : List Num) (f n i : Int) (v : Num) : wrW wrP f n l i v = (wantE l f n (true, i, v), wantL l f n (true, i, v)) := by
  unfold wrW wantE wantL wantI
  cases hr : rightN v
  · simp [wrN_wrong hr]
  · by_cases h : 0 ≤ i ∧ i < n
    · simp [h, wrP]
    · simp [h]
      rw [wrN_out hr (i := -1) (by omega)]; simp
theorem wantP_rd (l : List Num) (i : Int) (v : Num) : rdP l i = ((wantX l 0 l.length (false, i, v), wantE l 0 l.length (false, i, v)), wantL l 0 l.length (false, i, v)) := by
  unfold wantX wantE wantL
  simp [wantI0_rd, rdP]
theorem wantP_wr (l : List Num) (i : Int) (v : Num) : wrP l i v = (wantE l 0 l.length (true, i, v), wantL l 0 l.length (true, i, v)) := by
  unfold wantE wantL
  simp [wantI0_wr, wrP]

theorem lawMemPlays {β : World} {f n : Int} (hf : okI f) (hn : okI n) {a : Option Addr} {c : Nat} {l : List Num} (hl : l.length ≤ 9223372036854775807) (hr : ∀ As, Rds β As 2 encN a l)
    {a2 : Option Addr} {c2 : Nat} {L : List Act2} (hL : L.length ≤ 9223372036854775807) (hr2 : ∀ As, Rds β As 4 encA2 a2 L) :
    ∀ w, Sat β w [] → Calls Try.prog 4 #[.slice a l.length c, at2 f n, .slice a2 L.length c2] w fun e w' => e = .returned (.bool true) ∧ Sat β w' [] := by
  intro w h
  refine calls_W (args := [.slice a l.length c, at2 f n, .slice a2 L.length c2]) Try.func4 rfl rfl rfl ?_
  have al : ∀ w (K : Value → World → Prop), Sat β w [] → (∀ w', Sat β w' [] → K (.bool true) w') → CallF Try.prog 15 [] w K := fun w K h k => alive2_any.call h (Try.call15 _ _) k
  conv => whnf
  repeat (first | (refine CW.run rfl ?_; conv => whnf) | (refine CW.go ?_; conv => whnf))
  refine h.newK fun A4 w h => ?_
  conv => whnf
  repeat (first | (refine CW.run rfl ?_; conv => whnf) | (refine CW.go ?_; conv => whnf))
  refine sel_mk (fun h1 => ?_) (fun h1 => ?_)
  · conv => whnf
    repeat (first | (refine CW.run rfl ?_; conv => whnf) | (refine CW.go ?_; conv => whnf))
    refine al w _ h.tail fun w h => ?_
    conv => whnf
    repeat (first | (refine CW.run rfl ?_; conv => whnf) | (refine CW.go ?_; conv => whnf))
    exact ⟨rfl, h⟩
  have hs : l.length ≤ 200 := by simp at h1; omega
  conv => whnf
  repeat (first | (refine CW.run rfl ?_; conv => whnf) | (refine CW.go ?_; conv => whnf))
  refine sel_mk (fun h1 => ?_) (fun h1 => ?_)
  · conv => whnf
    repeat (first | (refine CW.run rfl ?_; conv => whnf) | (refine CW.go ?_; conv => whnf))
    refine al w _ h.tail fun w h => ?_
    conv => whnf
    repeat (first | (refine CW.run rfl ?_; conv => whnf) | (refine CW.go ?_; conv => whnf))
    exact ⟨rfl, h⟩
  have hsL : L.length ≤ 200 := by simp at h1; omega
  have r2 := fun w As h => ref2Right_any (c := c) hl β w As h (hr As)
  generalize e0 : (l.all rightN && decide (l.length ≤ 4096)) = ok at r2
  cases ok with
  | false =>
    conv => whnf
    repeat (first | (refine CW.run rfl ?_; conv => whnf) | (refine CW.go ?_; conv => whnf))
    refine CallF.val (memLoad_bad (by omega) e0 β w _ h (hr _)) (Try.call16 _ _) fun w h => ?_
    conv => whnf
    repeat (first | (refine CW.run rfl ?_; conv => whnf) | (refine CW.go ?_; conv => whnf))
    refine CallF.val (r2 w _ h) (Try.call14 _ _) fun w h => ?_
    conv => whnf
    repeat (first | (refine CW.run rfl ?_; conv => whnf) | (refine CW.go ?_; conv => whnf))
    refine al w _ h.tail fun w h => ?_
    conv => whnf
    repeat (first | (refine CW.run rfl ?_; conv => whnf) | (refine CW.go ?_; conv => whnf))
    exact ⟨rfl, h⟩
  | true => ?_
  have hok : l.all rightN = true ∧ l.length ≤ 4096 := by simpa [Bool.and_eq_true] using e0
  conv => whnf
  repeat (first | (refine CW.run rfl ?_; conv => whnf) | (refine CW.go ?_; conv => whnf))
  refine CallF.ret (memLoad_any hok.1 hok.2 β w _ h (hr _)) (Try.call16 _ _) ?_
  rintro _ w ⟨p, rfl, h⟩
  refine ⟨_, rfl, ?_⟩
  conv => whnf
  repeat (first | (refine CW.run rfl ?_; conv => whnf) | (refine CW.go ?_; conv => whnf))
  refine CallF.val (r2 w _ h) (Try.call14 _ _) fun w h => ?_
  conv => whnf
  repeat (first | ((with_reducible refine CW.is ?_); (first | refine CW.run rfl ?_ | refine CW.go ?_); conv => whnf) | ((with_reducible refine Chk.is ?_); refine Chk.mk (by first | decide | (exact ⟨by omega, by omega⟩)) ?_; conv => whnf) | ((with_reducible refine New.is ?_); refine Sat.newK h fun b w h => ?_; conv => whnf) | ((with_reducible refine Ld.is ?_); (first | refine Sat.ld 0 h rfl rfl ?_ | refine Sat.ld 1 h rfl rfl ?_ | refine Sat.ld 2 h rfl rfl ?_ | refine Sat.ld 3 h rfl rfl ?_ | refine Sat.ld 4 h rfl rfl ?_ | refine Sat.ld 5 h rfl rfl ?_ | refine Sat.ld 6 h rfl rfl ?_ | refine Sat.ld 7 h rfl rfl ?_ | refine Sat.ld 8 h rfl rfl ?_ | refine Sat.ld 9 h rfl rfl ?_); conv => whnf) | ((with_reducible refine LdN.is ?_); (first | refine Sat.ldN 0 h rfl _ rfl rfl ?_ | refine Sat.ldN 1 h rfl _ rfl rfl ?_ | refine Sat.ldN 2 h rfl _ rfl rfl ?_ | refine Sat.ldN 3 h rfl _ rfl rfl ?_ | refine Sat.ldN 4 h rfl _ rfl rfl ?_ | refine Sat.ldN 5 h rfl _ rfl rfl ?_ | refine Sat.ldN 6 h rfl _ rfl rfl ?_ | refine Sat.ldN 7 h rfl _ rfl rfl ?_ | refine Sat.ldN 8 h rfl _ rfl rfl ?_ | refine Sat.ldN 9 h rfl _ rfl rfl ?_); conv => whnf) | ((with_reducible refine Runs.is ?_); (first | refine Sat.store 0 h rfl rfl rfl rfl rfl ?_ | refine Sat.store 1 h rfl rfl rfl rfl rfl ?_ | refine Sat.store 2 h rfl rfl rfl rfl rfl ?_ | refine Sat.store 3 h rfl rfl rfl rfl rfl ?_ | refine Sat.store 4 h rfl rfl rfl rfl rfl ?_ | refine Sat.store 5 h rfl rfl rfl rfl rfl ?_ | refine Sat.store 6 h rfl rfl rfl rfl rfl ?_ | refine Sat.store 7 h rfl rfl rfl rfl rfl ?_ | refine Sat.store 8 h rfl rfl rfl rfl rfl ?_ | refine Sat.store 9 h rfl rfl rfl rfl rfl ?_); (conv => whnf); intro w h; (conv => whnf)))
  have hpart := part_any (f := f) (n := n) (s := l) (plainMem p) hf ⟨by simp [szP], by simp [szP]; omega⟩ β w _ h
  refine CallF.ret hpart (Try.call25 _ _) ?_
  clear hpart
  intro e w hp
  have : ∃ inb m, inb = partB l.length f n ∧ e = .returned (.tuple #[mV inb m, .int .i64 (if inb then 0 else 1)]) ∧ Sat β w (WinO inb m p f n :: Plain p l :: row A4 38 [.int .i64 f, .int .i64 n] :: []) := by
    rcases hp with ⟨hb, m, rfl, h⟩ | ⟨hb, rfl, h⟩
    · exact ⟨true, m, hb.symm, rfl, h⟩
    · exact ⟨false, 0, hb.symm, rfl, Sat.emp.2 h⟩
  clear hp
  obtain ⟨inb, m, hinb, rfl, h⟩ := this
  refine ⟨_, rfl, ?_⟩
  conv => whnf
  have hp : inb = true ↔ 0 ≤ f ∧ 0 ≤ n ∧ n ≤ l.length - f := by rw [hinb]; unfold partB; simp
  refine CW.join [0, 2, 4, 7, 10, 11, 12] (fun vs w => vs = [.slice a l.length c, .slice a2 L.length c2, ptr A4, ptr p, mV inb m, .int .i64 (if inb then 0 else 1), .bool inb] ∧
    Sat β w [WinO inb m p f n, Plain p l, row A4 38 [.int .i64 f, .int .i64 n]]) ?_ ?_
  · have no : ¬ (0 ≤ f ∧ 0 ≤ n ∧ n ≤ l.length - f) → inb = false := fun hn => by cases inb with | false => rfl | true => exact absurd (hp.1 rfl) hn
    conv => whnf
    repeat (first | ((with_reducible refine CW.is ?_); (first | refine CW.run rfl ?_ | refine CW.go ?_); conv => whnf) | ((with_reducible refine Chk.is ?_); refine Chk.mk (by first | decide | (exact ⟨by omega, by omega⟩)) ?_; conv => whnf) | ((with_reducible refine New.is ?_); refine Sat.newK h fun b w h => ?_; conv => whnf) | ((with_reducible refine Ld.is ?_); (first | refine Sat.ld 0 h rfl rfl ?_ | refine Sat.ld 1 h rfl rfl ?_ | refine Sat.ld 2 h rfl rfl ?_ | refine Sat.ld 3 h rfl rfl ?_ | refine Sat.ld 4 h rfl rfl ?_ | refine Sat.ld 5 h rfl rfl ?_ | refine Sat.ld 6 h rfl rfl ?_ | refine Sat.ld 7 h rfl rfl ?_ | refine Sat.ld 8 h rfl rfl ?_ | refine Sat.ld 9 h rfl rfl ?_); conv => whnf) | ((with_reducible refine LdN.is ?_); (first | refine Sat.ldN 0 h rfl _ rfl rfl ?_ | refine Sat.ldN 1 h rfl _ rfl rfl ?_ | refine Sat.ldN 2 h rfl _ rfl rfl ?_ | refine Sat.ldN 3 h rfl _ rfl rfl ?_ | refine Sat.ldN 4 h rfl _ rfl rfl ?_ | refine Sat.ldN 5 h rfl _ rfl rfl ?_ | refine Sat.ldN 6 h rfl _ rfl rfl ?_ | refine Sat.ldN 7 h rfl _ rfl rfl ?_ | refine Sat.ldN 8 h rfl _ rfl rfl ?_ | refine Sat.ldN 9 h rfl _ rfl rfl ?_); conv => whnf) | ((with_reducible refine Runs.is ?_); (first | refine Sat.store 0 h rfl rfl rfl rfl rfl ?_ | refine Sat.store 1 h rfl rfl rfl rfl rfl ?_ | refine Sat.store 2 h rfl rfl rfl rfl rfl ?_ | refine Sat.store 3 h rfl rfl rfl rfl rfl ?_ | refine Sat.store 4 h rfl rfl rfl rfl rfl ?_ | refine Sat.store 5 h rfl rfl rfl rfl rfl ?_ | refine Sat.store 6 h rfl rfl rfl rfl rfl ?_ | refine Sat.store 7 h rfl rfl rfl rfl rfl ?_ | refine Sat.store 8 h rfl rfl rfl rfl rfl ?_ | refine Sat.store 9 h rfl rfl rfl rfl rfl ?_); (conv => whnf); intro w h; (conv => whnf)))
    refine sel_mk (fun h1 => ?_) (fun h1 => ?_)
    rotate_left
    · conv => whnf
      repeat (first | ((with_reducible refine CW.is ?_); (first | refine CW.run rfl ?_ | refine CW.go ?_); conv => whnf) | ((with_reducible refine Chk.is ?_); refine Chk.mk (by first | decide | (exact ⟨by omega, by omega⟩)) ?_; conv => whnf) | ((with_reducible refine New.is ?_); refine Sat.newK h fun b w h => ?_; conv => whnf) | ((with_reducible refine Ld.is ?_); (first | refine Sat.ld 0 h rfl rfl ?_ | refine Sat.ld 1 h rfl rfl ?_ | refine Sat.ld 2 h rfl rfl ?_ | refine Sat.ld 3 h rfl rfl ?_ | refine Sat.ld 4 h rfl rfl ?_ | refine Sat.ld 5 h rfl rfl ?_ | refine Sat.ld 6 h rfl rfl ?_ | refine Sat.ld 7 h rfl rfl ?_ | refine Sat.ld 8 h rfl rfl ?_ | refine Sat.ld 9 h rfl rfl ?_); conv => whnf) | ((with_reducible refine LdN.is ?_); (first | refine Sat.ldN 0 h rfl _ rfl rfl ?_ | refine Sat.ldN 1 h rfl _ rfl rfl ?_ | refine Sat.ldN 2 h rfl _ rfl rfl ?_ | refine Sat.ldN 3 h rfl _ rfl rfl ?_ | refine Sat.ldN 4 h rfl _ rfl rfl ?_ | refine Sat.ldN 5 h rfl _ rfl rfl ?_ | refine Sat.ldN 6 h rfl _ rfl rfl ?_ | refine Sat.ldN 7 h rfl _ rfl rfl ?_ | refine Sat.ldN 8 h rfl _ rfl rfl ?_ | refine Sat.ldN 9 h rfl _ rfl rfl ?_); conv => whnf) | ((with_reducible refine Runs.is ?_); (first | refine Sat.store 0 h rfl rfl rfl rfl rfl ?_ | refine Sat.store 1 h rfl rfl rfl rfl rfl ?_ | refine Sat.store 2 h rfl rfl rfl rfl rfl ?_ | refine Sat.store 3 h rfl rfl rfl rfl rfl ?_ | refine Sat.store 4 h rfl rfl rfl rfl rfl ?_ | refine Sat.store 5 h rfl rfl rfl rfl rfl ?_ | refine Sat.store 6 h rfl rfl rfl rfl rfl ?_ | refine Sat.store 7 h rfl rfl rfl rfl rfl ?_ | refine Sat.store 8 h rfl rfl rfl rfl rfl ?_ | refine Sat.store 9 h rfl rfl rfl rfl rfl ?_); (conv => whnf); intro w h; (conv => whnf)))
      exact ⟨by rw [no (by simp at h1; omega)], h⟩
    conv => whnf
    repeat (first | ((with_reducible refine CW.is ?_); (first | refine CW.run rfl ?_ | refine CW.go ?_); conv => whnf) | ((with_reducible refine Chk.is ?_); refine Chk.mk (by first | decide | (exact ⟨by omega, by omega⟩)) ?_; conv => whnf) | ((with_reducible refine New.is ?_); refine Sat.newK h fun b w h => ?_; conv => whnf) | ((with_reducible refine Ld.is ?_); (first | refine Sat.ld 0 h rfl rfl ?_ | refine Sat.ld 1 h rfl rfl ?_ | refine Sat.ld 2 h rfl rfl ?_ | refine Sat.ld 3 h rfl rfl ?_ | refine Sat.ld 4 h rfl rfl ?_ | refine Sat.ld 5 h rfl rfl ?_ | refine Sat.ld 6 h rfl rfl ?_ | refine Sat.ld 7 h rfl rfl ?_ | refine Sat.ld 8 h rfl rfl ?_ | refine Sat.ld 9 h rfl rfl ?_); conv => whnf) | ((with_reducible refine LdN.is ?_); (first | refine Sat.ldN 0 h rfl _ rfl rfl ?_ | refine Sat.ldN 1 h rfl _ rfl rfl ?_ | refine Sat.ldN 2 h rfl _ rfl rfl ?_ | refine Sat.ldN 3 h rfl _ rfl rfl ?_ | refine Sat.ldN 4 h rfl _ rfl rfl ?_ | refine Sat.ldN 5 h rfl _ rfl rfl ?_ | refine Sat.ldN 6 h rfl _ rfl rfl ?_ | refine Sat.ldN 7 h rfl _ rfl rfl ?_ | refine Sat.ldN 8 h rfl _ rfl rfl ?_ | refine Sat.ldN 9 h rfl _ rfl rfl ?_); conv => whnf) | ((with_reducible refine Runs.is ?_); (first | refine Sat.store 0 h rfl rfl rfl rfl rfl ?_ | refine Sat.store 1 h rfl rfl rfl rfl rfl ?_ | refine Sat.store 2 h rfl rfl rfl rfl rfl ?_ | refine Sat.store 3 h rfl rfl rfl rfl rfl ?_ | refine Sat.store 4 h rfl rfl rfl rfl rfl ?_ | refine Sat.store 5 h rfl rfl rfl rfl rfl ?_ | refine Sat.store 6 h rfl rfl rfl rfl rfl ?_ | refine Sat.store 7 h rfl rfl rfl rfl rfl ?_ | refine Sat.store 8 h rfl rfl rfl rfl rfl ?_ | refine Sat.store 9 h rfl rfl rfl rfl rfl ?_); (conv => whnf); intro w h; (conv => whnf)))
    refine sel_mk (fun h2 => ?_) (fun h2 => ?_)
    rotate_left
    · conv => whnf
      repeat (first | ((with_reducible refine CW.is ?_); (first | refine CW.run rfl ?_ | refine CW.go ?_); conv => whnf) | ((with_reducible refine Chk.is ?_); refine Chk.mk (by first | decide | (exact ⟨by omega, by omega⟩)) ?_; conv => whnf) | ((with_reducible refine New.is ?_); refine Sat.newK h fun b w h => ?_; conv => whnf) | ((with_reducible refine Ld.is ?_); (first | refine Sat.ld 0 h rfl rfl ?_ | refine Sat.ld 1 h rfl rfl ?_ | refine Sat.ld 2 h rfl rfl ?_ | refine Sat.ld 3 h rfl rfl ?_ | refine Sat.ld 4 h rfl rfl ?_ | refine Sat.ld 5 h rfl rfl ?_ | refine Sat.ld 6 h rfl rfl ?_ | refine Sat.ld 7 h rfl rfl ?_ | refine Sat.ld 8 h rfl rfl ?_ | refine Sat.ld 9 h rfl rfl ?_); conv => whnf) | ((with_reducible refine LdN.is ?_); (first | refine Sat.ldN 0 h rfl _ rfl rfl ?_ | refine Sat.ldN 1 h rfl _ rfl rfl ?_ | refine Sat.ldN 2 h rfl _ rfl rfl ?_ | refine Sat.ldN 3 h rfl _ rfl rfl ?_ | refine Sat.ldN 4 h rfl _ rfl rfl ?_ | refine Sat.ldN 5 h rfl _ rfl rfl ?_ | refine Sat.ldN 6 h rfl _ rfl rfl ?_ | refine Sat.ldN 7 h rfl _ rfl rfl ?_ | refine Sat.ldN 8 h rfl _ rfl rfl ?_ | refine Sat.ldN 9 h rfl _ rfl rfl ?_); conv => whnf) | ((with_reducible refine Runs.is ?_); (first | refine Sat.store 0 h rfl rfl rfl rfl rfl ?_ | refine Sat.store 1 h rfl rfl rfl rfl rfl ?_ | refine Sat.store 2 h rfl rfl rfl rfl rfl ?_ | refine Sat.store 3 h rfl rfl rfl rfl rfl ?_ | refine Sat.store 4 h rfl rfl rfl rfl rfl ?_ | refine Sat.store 5 h rfl rfl rfl rfl rfl ?_ | refine Sat.store 6 h rfl rfl rfl rfl rfl ?_ | refine Sat.store 7 h rfl rfl rfl rfl rfl ?_ | refine Sat.store 8 h rfl rfl rfl rfl rfl ?_ | refine Sat.store 9 h rfl rfl rfl rfl rfl ?_); (conv => whnf); intro w h; (conv => whnf)))
      exact ⟨by rw [no (by simp at h2; omega)], h⟩
    conv => whnf
    repeat (first | ((with_reducible refine CW.is ?_); (first | refine CW.run rfl ?_ | refine CW.go ?_); conv => whnf) | ((with_reducible refine Chk.is ?_); refine Chk.mk (by first | decide | (exact ⟨by omega, by omega⟩)) ?_; conv => whnf) | ((with_reducible refine New.is ?_); refine Sat.newK h fun b w h => ?_; conv => whnf) | ((with_reducible refine Ld.is ?_); (first | refine Sat.ld 0 h rfl rfl ?_ | refine Sat.ld 1 h rfl rfl ?_ | refine Sat.ld 2 h rfl rfl ?_ | refine Sat.ld 3 h rfl rfl ?_ | refine Sat.ld 4 h rfl rfl ?_ | refine Sat.ld 5 h rfl rfl ?_ | refine Sat.ld 6 h rfl rfl ?_ | refine Sat.ld 7 h rfl rfl ?_ | refine Sat.ld 8 h rfl rfl ?_ | refine Sat.ld 9 h rfl rfl ?_); conv => whnf) | ((with_reducible refine LdN.is ?_); (first | refine Sat.ldN 0 h rfl _ rfl rfl ?_ | refine Sat.ldN 1 h rfl _ rfl rfl ?_ | refine Sat.ldN 2 h rfl _ rfl rfl ?_ | refine Sat.ldN 3 h rfl _ rfl rfl ?_ | refine Sat.ldN 4 h rfl _ rfl rfl ?_ | refine Sat.ldN 5 h rfl _ rfl rfl ?_ | refine Sat.ldN 6 h rfl _ rfl rfl ?_ | refine Sat.ldN 7 h rfl _ rfl rfl ?_ | refine Sat.ldN 8 h rfl _ rfl rfl ?_ | refine Sat.ldN 9 h rfl _ rfl rfl ?_); conv => whnf) | ((with_reducible refine Runs.is ?_); (first | refine Sat.store 0 h rfl rfl rfl rfl rfl ?_ | refine Sat.store 1 h rfl rfl rfl rfl rfl ?_ | refine Sat.store 2 h rfl rfl rfl rfl rfl ?_ | refine Sat.store 3 h rfl rfl rfl rfl rfl ?_ | refine Sat.store 4 h rfl rfl rfl rfl rfl ?_ | refine Sat.store 5 h rfl rfl rfl rfl rfl ?_ | refine Sat.store 6 h rfl rfl rfl rfl rfl ?_ | refine Sat.store 7 h rfl rfl rfl rfl rfl ?_ | refine Sat.store 8 h rfl rfl rfl rfl rfl ?_ | refine Sat.store 9 h rfl rfl rfl rfl rfl ?_); (conv => whnf); intro w h; (conv => whnf)))
    refine sel_mk (fun h3 => ?_) (fun h3 => ?_)
    rotate_left
    · conv => whnf
      repeat (first | ((with_reducible refine CW.is ?_); (first | refine CW.run rfl ?_ | refine CW.go ?_); conv => whnf) | ((with_reducible refine Chk.is ?_); refine Chk.mk (by first | decide | (exact ⟨by omega, by omega⟩)) ?_; conv => whnf) | ((with_reducible refine New.is ?_); refine Sat.newK h fun b w h => ?_; conv => whnf) | ((with_reducible refine Ld.is ?_); (first | refine Sat.ld 0 h rfl rfl ?_ | refine Sat.ld 1 h rfl rfl ?_ | refine Sat.ld 2 h rfl rfl ?_ | refine Sat.ld 3 h rfl rfl ?_ | refine Sat.ld 4 h rfl rfl ?_ | refine Sat.ld 5 h rfl rfl ?_ | refine Sat.ld 6 h rfl rfl ?_ | refine Sat.ld 7 h rfl rfl ?_ | refine Sat.ld 8 h rfl rfl ?_ | refine Sat.ld 9 h rfl rfl ?_); conv => whnf) | ((with_reducible refine LdN.is ?_); (first | refine Sat.ldN 0 h rfl _ rfl rfl ?_ | refine Sat.ldN 1 h rfl _ rfl rfl ?_ | refine Sat.ldN 2 h rfl _ rfl rfl ?_ | refine Sat.ldN 3 h rfl _ rfl rfl ?_ | refine Sat.ldN 4 h rfl _ rfl rfl ?_ | refine Sat.ldN 5 h rfl _ rfl rfl ?_ | refine Sat.ldN 6 h rfl _ rfl rfl ?_ | refine Sat.ldN 7 h rfl _ rfl rfl ?_ | refine Sat.ldN 8 h rfl _ rfl rfl ?_ | refine Sat.ldN 9 h rfl _ rfl rfl ?_); conv => whnf) | ((with_reducible refine Runs.is ?_); (first | refine Sat.store 0 h rfl rfl rfl rfl rfl ?_ | refine Sat.store 1 h rfl rfl rfl rfl rfl ?_ | refine Sat.store 2 h rfl rfl rfl rfl rfl ?_ | refine Sat.store 3 h rfl rfl rfl rfl rfl ?_ | refine Sat.store 4 h rfl rfl rfl rfl rfl ?_ | refine Sat.store 5 h rfl rfl rfl rfl rfl ?_ | refine Sat.store 6 h rfl rfl rfl rfl rfl ?_ | refine Sat.store 7 h rfl rfl rfl rfl rfl ?_ | refine Sat.store 8 h rfl rfl rfl rfl rfl ?_ | refine Sat.store 9 h rfl rfl rfl rfl rfl ?_); (conv => whnf); intro w h; (conv => whnf)))
      exact ⟨by rw [no (by simp at h1 h2 h3; omega)], h⟩
    simp at h1 h2 h3
    conv => whnf
    repeat (first | ((with_reducible refine CW.is ?_); (first | refine CW.run rfl ?_ | refine CW.go ?_); conv => whnf) | ((with_reducible refine Chk.is ?_); refine Chk.mk (by first | decide | (exact ⟨by omega, by omega⟩)) ?_; conv => whnf) | ((with_reducible refine New.is ?_); refine Sat.newK h fun b w h => ?_; conv => whnf) | ((with_reducible refine Ld.is ?_); (first | refine Sat.ld 0 h rfl rfl ?_ | refine Sat.ld 1 h rfl rfl ?_ | refine Sat.ld 2 h rfl rfl ?_ | refine Sat.ld 3 h rfl rfl ?_ | refine Sat.ld 4 h rfl rfl ?_ | refine Sat.ld 5 h rfl rfl ?_ | refine Sat.ld 6 h rfl rfl ?_ | refine Sat.ld 7 h rfl rfl ?_ | refine Sat.ld 8 h rfl rfl ?_ | refine Sat.ld 9 h rfl rfl ?_); conv => whnf) | ((with_reducible refine LdN.is ?_); (first | refine Sat.ldN 0 h rfl _ rfl rfl ?_ | refine Sat.ldN 1 h rfl _ rfl rfl ?_ | refine Sat.ldN 2 h rfl _ rfl rfl ?_ | refine Sat.ldN 3 h rfl _ rfl rfl ?_ | refine Sat.ldN 4 h rfl _ rfl rfl ?_ | refine Sat.ldN 5 h rfl _ rfl rfl ?_ | refine Sat.ldN 6 h rfl _ rfl rfl ?_ | refine Sat.ldN 7 h rfl _ rfl rfl ?_ | refine Sat.ldN 8 h rfl _ rfl rfl ?_ | refine Sat.ldN 9 h rfl _ rfl rfl ?_); conv => whnf) | ((with_reducible refine Runs.is ?_); (first | refine Sat.store 0 h rfl rfl rfl rfl rfl ?_ | refine Sat.store 1 h rfl rfl rfl rfl rfl ?_ | refine Sat.store 2 h rfl rfl rfl rfl rfl ?_ | refine Sat.store 3 h rfl rfl rfl rfl rfl ?_ | refine Sat.store 4 h rfl rfl rfl rfl rfl ?_ | refine Sat.store 5 h rfl rfl rfl rfl rfl ?_ | refine Sat.store 6 h rfl rfl rfl rfl rfl ?_ | refine Sat.store 7 h rfl rfl rfl rfl rfl ?_ | refine Sat.store 8 h rfl rfl rfl rfl rfl ?_ | refine Sat.store 9 h rfl rfl rfl rfl rfl ?_); (conv => whnf); intro w h; (conv => whnf)))
    rw [wr64 (n := (l.length : Int) - f) (by omega) (by omega)]
    exact ⟨by
      have : inb = decide (n ≤ l.length - f) := by rw [Bool.eq_iff_iff, hp]; simp; omega
      rw [← this], h⟩
  clear h
  rintro _ w ⟨rfl, h⟩
  conv => whnf
  refine CW.join [0, 2, 4, 7, 10, 12, 111] (fun vs w => vs = [.slice a l.length c, .slice a2 L.length c2, ptr A4, ptr p, mV inb m, .bool inb, .bool false] ∧
    Sat β w [WinO inb m p f n, Plain p l, row A4 38 [.int .i64 f, .int .i64 n]]) ?_ ?_
  · clear hp hinb
    cases inb
    all_goals
      conv => whnf
      repeat (first | ((with_reducible refine CW.is ?_); (first | refine CW.run rfl ?_ | refine CW.go ?_); conv => whnf) | ((with_reducible refine Chk.is ?_); refine Chk.mk (by first | decide | (exact ⟨by omega, by omega⟩)) ?_; conv => whnf) | ((with_reducible refine New.is ?_); refine Sat.newK h fun b w h => ?_; conv => whnf) | ((with_reducible refine Ld.is ?_); (first | refine Sat.ld 0 h rfl rfl ?_ | refine Sat.ld 1 h rfl rfl ?_ | refine Sat.ld 2 h rfl rfl ?_ | refine Sat.ld 3 h rfl rfl ?_ | refine Sat.ld 4 h rfl rfl ?_ | refine Sat.ld 5 h rfl rfl ?_ | refine Sat.ld 6 h rfl rfl ?_ | refine Sat.ld 7 h rfl rfl ?_ | refine Sat.ld 8 h rfl rfl ?_ | refine Sat.ld 9 h rfl rfl ?_); conv => whnf) | ((with_reducible refine LdN.is ?_); (first | refine Sat.ldN 0 h rfl _ rfl rfl ?_ | refine Sat.ldN 1 h rfl _ rfl rfl ?_ | refine Sat.ldN 2 h rfl _ rfl rfl ?_ | refine Sat.ldN 3 h rfl _ rfl rfl ?_ | refine Sat.ldN 4 h rfl _ rfl rfl ?_ | refine Sat.ldN 5 h rfl _ rfl rfl ?_ | refine Sat.ldN 6 h rfl _ rfl rfl ?_ | refine Sat.ldN 7 h rfl _ rfl rfl ?_ | refine Sat.ldN 8 h rfl _ rfl rfl ?_ | refine Sat.ldN 9 h rfl _ rfl rfl ?_); conv => whnf) | ((with_reducible refine Runs.is ?_); (first | refine Sat.store 0 h rfl rfl rfl rfl rfl ?_ | refine Sat.store 1 h rfl rfl rfl rfl rfl ?_ | refine Sat.store 2 h rfl rfl rfl rfl rfl ?_ | refine Sat.store 3 h rfl rfl rfl rfl rfl ?_ | refine Sat.store 4 h rfl rfl rfl rfl rfl ?_ | refine Sat.store 5 h rfl rfl rfl rfl rfl ?_ | refine Sat.store 6 h rfl rfl rfl rfl rfl ?_ | refine Sat.store 7 h rfl rfl rfl rfl rfl ?_ | refine Sat.store 8 h rfl rfl rfl rfl rfl ?_ | refine Sat.store 9 h rfl rfl rfl rfl rfl ?_); (conv => whnf); intro w h; (conv => whnf)))
      exact ⟨rfl, h⟩
  clear h
  rintro _ w ⟨rfl, h⟩
  conv => whnf
  repeat (first | ((with_reducible refine CW.is ?_); (first | refine CW.run rfl ?_ | refine CW.go ?_); conv => whnf) | ((with_reducible refine Chk.is ?_); refine Chk.mk (by first | decide | (exact ⟨by omega, by omega⟩)) ?_; conv => whnf) | ((with_reducible refine New.is ?_); refine Sat.newK h fun b w h => ?_; conv => whnf) | ((with_reducible refine Ld.is ?_); (first | refine Sat.ld 0 h rfl rfl ?_ | refine Sat.ld 1 h rfl rfl ?_ | refine Sat.ld 2 h rfl rfl ?_ | refine Sat.ld 3 h rfl rfl ?_ | refine Sat.ld 4 h rfl rfl ?_ | refine Sat.ld 5 h rfl rfl ?_ | refine Sat.ld 6 h rfl rfl ?_ | refine Sat.ld 7 h rfl rfl ?_ | refine Sat.ld 8 h rfl rfl ?_ | refine Sat.ld 9 h rfl rfl ?_); conv => whnf) | ((with_reducible refine LdN.is ?_); (first | refine Sat.ldN 0 h rfl _ rfl rfl ?_ | refine Sat.ldN 1 h rfl _ rfl rfl ?_ | refine Sat.ldN 2 h rfl _ rfl rfl ?_ | refine Sat.ldN 3 h rfl _ rfl rfl ?_ | refine Sat.ldN 4 h rfl _ rfl rfl ?_ | refine Sat.ldN 5 h rfl _ rfl rfl ?_ | refine Sat.ldN 6 h rfl _ rfl rfl ?_ | refine Sat.ldN 7 h rfl _ rfl rfl ?_ | refine Sat.ldN 8 h rfl _ rfl rfl ?_ | refine Sat.ldN 9 h rfl _ rfl rfl ?_); conv => whnf) | ((with_reducible refine Runs.is ?_); (first | refine Sat.store 0 h rfl rfl rfl rfl rfl ?_ | refine Sat.store 1 h rfl rfl rfl rfl rfl ?_ | refine Sat.store 2 h rfl rfl rfl rfl rfl ?_ | refine Sat.store 3 h rfl rfl rfl rfl rfl ?_ | refine Sat.store 4 h rfl rfl rfl rfl rfl ?_ | refine Sat.store 5 h rfl rfl rfl rfl rfl ?_ | refine Sat.store 6 h rfl rfl rfl rfl rfl ?_ | refine Sat.store 7 h rfl rfl rfl rfl rfl ?_ | refine Sat.store 8 h rfl rfl rfl rfl rfl ?_ | refine Sat.store 9 h rfl rfl rfl rfl rfl ?_); (conv => whnf); intro w h; (conv => whnf)))
  refine Sat.bringK [1] h ?_
  conv => whnf
  clear h; intro h
  refine CallF.ret (memClone_any (by omega) β w _ h) (Try.call26 _ _) ?_
  rintro _ w ⟨C, rfl, h⟩
  refine ⟨_, rfl, ?_⟩
  conv => whnf
  repeat (first | ((with_reducible refine CW.is ?_); (first | refine CW.run rfl ?_ | refine CW.go ?_); conv => whnf) | ((with_reducible refine Chk.is ?_); refine Chk.mk (by first | decide | (exact ⟨by omega, by omega⟩)) ?_; conv => whnf) | ((with_reducible refine New.is ?_); refine Sat.newK h fun b w h => ?_; conv => whnf) | ((with_reducible refine Ld.is ?_); (first | refine Sat.ld 0 h rfl rfl ?_ | refine Sat.ld 1 h rfl rfl ?_ | refine Sat.ld 2 h rfl rfl ?_ | refine Sat.ld 3 h rfl rfl ?_ | refine Sat.ld 4 h rfl rfl ?_ | refine Sat.ld 5 h rfl rfl ?_ | refine Sat.ld 6 h rfl rfl ?_ | refine Sat.ld 7 h rfl rfl ?_ | refine Sat.ld 8 h rfl rfl ?_ | refine Sat.ld 9 h rfl rfl ?_); conv => whnf) | ((with_reducible refine LdN.is ?_); (first | refine Sat.ldN 0 h rfl _ rfl rfl ?_ | refine Sat.ldN 1 h rfl _ rfl rfl ?_ | refine Sat.ldN 2 h rfl _ rfl rfl ?_ | refine Sat.ldN 3 h rfl _ rfl rfl ?_ | refine Sat.ldN 4 h rfl _ rfl rfl ?_ | refine Sat.ldN 5 h rfl _ rfl rfl ?_ | refine Sat.ldN 6 h rfl _ rfl rfl ?_ | refine Sat.ldN 7 h rfl _ rfl rfl ?_ | refine Sat.ldN 8 h rfl _ rfl rfl ?_ | refine Sat.ldN 9 h rfl _ rfl rfl ?_); conv => whnf) | ((with_reducible refine Runs.is ?_); (first | refine Sat.store 0 h rfl rfl rfl rfl rfl ?_ | refine Sat.store 1 h rfl rfl rfl rfl rfl ?_ | refine Sat.store 2 h rfl rfl rfl rfl rfl ?_ | refine Sat.store 3 h rfl rfl rfl rfl rfl ?_ | refine Sat.store 4 h rfl rfl rfl rfl rfl ?_ | refine Sat.store 5 h rfl rfl rfl rfl rfl ?_ | refine Sat.store 6 h rfl rfl rfl rfl rfl ?_ | refine Sat.store 7 h rfl rfl rfl rfl rfl ?_ | refine Sat.store 8 h rfl rfl rfl rfl rfl ?_ | refine Sat.store 9 h rfl rfl rfl rfl rfl ?_); (conv => whnf); intro w h; (conv => whnf)))
  have h := h.own_of (sz := 2) (enc := encN) [] rfl (fun _ hx => by cases hx)
  refine Sat.append (l := []) (xs := l) (sz := 2) (enc := encN) h rfl rfl rfl (by decide) rfl rfl rfl (hr _) (fun _ => rfl) (fun _ => rfl) (by show _ * 16 ≤ _; simp; omega) fun a' c' w h => ?_
  simp only [List.nil_append, List.length_nil, Nat.zero_add] at h ⊢
  refine Sat.bringK [2, 3, 4, 1, 0] h ?_
  conv => whnf
  clear h; intro h
  conv => whnf
  repeat (first | ((with_reducible refine CW.is ?_); (first | refine CW.run rfl ?_ | refine CW.go ?_); conv => whnf) | ((with_reducible refine Chk.is ?_); refine Chk.mk (by first | decide | (exact ⟨by omega, by omega⟩)) ?_; conv => whnf) | ((with_reducible refine New.is ?_); refine Sat.newK h fun b w h => ?_; conv => whnf) | ((with_reducible refine Ld.is ?_); (first | refine Sat.ld 0 h rfl rfl ?_ | refine Sat.ld 1 h rfl rfl ?_ | refine Sat.ld 2 h rfl rfl ?_ | refine Sat.ld 3 h rfl rfl ?_ | refine Sat.ld 4 h rfl rfl ?_ | refine Sat.ld 5 h rfl rfl ?_ | refine Sat.ld 6 h rfl rfl ?_ | refine Sat.ld 7 h rfl rfl ?_ | refine Sat.ld 8 h rfl rfl ?_ | refine Sat.ld 9 h rfl rfl ?_); conv => whnf) | ((with_reducible refine LdN.is ?_); (first | refine Sat.ldN 0 h rfl _ rfl rfl ?_ | refine Sat.ldN 1 h rfl _ rfl rfl ?_ | refine Sat.ldN 2 h rfl _ rfl rfl ?_ | refine Sat.ldN 3 h rfl _ rfl rfl ?_ | refine Sat.ldN 4 h rfl _ rfl rfl ?_ | refine Sat.ldN 5 h rfl _ rfl rfl ?_ | refine Sat.ldN 6 h rfl _ rfl rfl ?_ | refine Sat.ldN 7 h rfl _ rfl rfl ?_ | refine Sat.ldN 8 h rfl _ rfl rfl ?_ | refine Sat.ldN 9 h rfl _ rfl rfl ?_); conv => whnf) | ((with_reducible refine Runs.is ?_); (first | refine Sat.store 0 h rfl rfl rfl rfl rfl ?_ | refine Sat.store 1 h rfl rfl rfl rfl rfl ?_ | refine Sat.store 2 h rfl rfl rfl rfl rfl ?_ | refine Sat.store 3 h rfl rfl rfl rfl rfl ?_ | refine Sat.store 4 h rfl rfl rfl rfl rfl ?_ | refine Sat.store 5 h rfl rfl rfl rfl rfl ?_ | refine Sat.store 6 h rfl rfl rfl rfl rfl ?_ | refine Sat.store 7 h rfl rfl rfl rfl rfl ?_ | refine Sat.store 8 h rfl rfl rfl rfl rfl ?_ | refine Sat.store 9 h rfl rfl rfl rfl rfl ?_); (conv => whnf); intro w h; (conv => whnf)))
  refine CW.loop [0, 2, 4, 7, 10, 12, 13, 14, 15] (fun m' vs w => ∃ (k : Nat) (cur : List Num) (a' : Option Addr) (c' : Nat), k ≤ L.length ∧ m' = L.length - k ∧ cur.length = l.length ∧
    vs = [.slice a l.length c, .slice a2 L.length c2, ptr A4, ptr p, mV inb m, .bool inb, ptr C, .slice a' cur.length c', .int .i64 k] ∧
    Sat β w [Plain p cur, WinO inb m p f n, row A4 38 [.int .i64 f, .int .i64 n], Plain C l, Own 33 2 encN a' c' cur]) ?_ ?_
  · conv => whnf
    repeat (first | ((with_reducible refine CW.is ?_); (first | refine CW.run rfl ?_ | refine CW.go ?_); conv => whnf) | ((with_reducible refine Chk.is ?_); refine Chk.mk (by first | decide | (exact ⟨by omega, by omega⟩)) ?_; conv => whnf) | ((with_reducible refine New.is ?_); refine Sat.newK h fun b w h => ?_; conv => whnf) | ((with_reducible refine Ld.is ?_); (first | refine Sat.ld 0 h rfl rfl ?_ | refine Sat.ld 1 h rfl rfl ?_ | refine Sat.ld 2 h rfl rfl ?_ | refine Sat.ld 3 h rfl rfl ?_ | refine Sat.ld 4 h rfl rfl ?_ | refine Sat.ld 5 h rfl rfl ?_ | refine Sat.ld 6 h rfl rfl ?_ | refine Sat.ld 7 h rfl rfl ?_ | refine Sat.ld 8 h rfl rfl ?_ | refine Sat.ld 9 h rfl rfl ?_); conv => whnf) | ((with_reducible refine LdN.is ?_); (first | refine Sat.ldN 0 h rfl _ rfl rfl ?_ | refine Sat.ldN 1 h rfl _ rfl rfl ?_ | refine Sat.ldN 2 h rfl _ rfl rfl ?_ | refine Sat.ldN 3 h rfl _ rfl rfl ?_ | refine Sat.ldN 4 h rfl _ rfl rfl ?_ | refine Sat.ldN 5 h rfl _ rfl rfl ?_ | refine Sat.ldN 6 h rfl _ rfl rfl ?_ | refine Sat.ldN 7 h rfl _ rfl rfl ?_ | refine Sat.ldN 8 h rfl _ rfl rfl ?_ | refine Sat.ldN 9 h rfl _ rfl rfl ?_); conv => whnf) | ((with_reducible refine Runs.is ?_); (first | refine Sat.store 0 h rfl rfl rfl rfl rfl ?_ | refine Sat.store 1 h rfl rfl rfl rfl rfl ?_ | refine Sat.store 2 h rfl rfl rfl rfl rfl ?_ | refine Sat.store 3 h rfl rfl rfl rfl rfl ?_ | refine Sat.store 4 h rfl rfl rfl rfl rfl ?_ | refine Sat.store 5 h rfl rfl rfl rfl rfl ?_ | refine Sat.store 6 h rfl rfl rfl rfl rfl ?_ | refine Sat.store 7 h rfl rfl rfl rfl rfl ?_ | refine Sat.store 8 h rfl rfl rfl rfl rfl ?_ | refine Sat.store 9 h rfl rfl rfl rfl rfl ?_); (conv => whnf); intro w h; (conv => whnf)))
    exact ⟨_, 0, l, a', c', Nat.zero_le _, rfl, rfl, rfl, h⟩
  clear h
  rintro _ _ w ⟨k, cur, a', c', hk, rfl, hcur, rfl, h⟩
  conv => whnf
  repeat (first | ((with_reducible refine CW.is ?_); (first | refine CW.run rfl ?_ | refine CW.go ?_); conv => whnf) | ((with_reducible refine Chk.is ?_); refine Chk.mk (by first | decide | (exact ⟨by omega, by omega⟩)) ?_; conv => whnf) | ((with_reducible refine New.is ?_); refine Sat.newK h fun b w h => ?_; conv => whnf) | ((with_reducible refine Ld.is ?_); (first | refine Sat.ld 0 h rfl rfl ?_ | refine Sat.ld 1 h rfl rfl ?_ | refine Sat.ld 2 h rfl rfl ?_ | refine Sat.ld 3 h rfl rfl ?_ | refine Sat.ld 4 h rfl rfl ?_ | refine Sat.ld 5 h rfl rfl ?_ | refine Sat.ld 6 h rfl rfl ?_ | refine Sat.ld 7 h rfl rfl ?_ | refine Sat.ld 8 h rfl rfl ?_ | refine Sat.ld 9 h rfl rfl ?_); conv => whnf) | ((with_reducible refine LdN.is ?_); (first | refine Sat.ldN 0 h rfl _ rfl rfl ?_ | refine Sat.ldN 1 h rfl _ rfl rfl ?_ | refine Sat.ldN 2 h rfl _ rfl rfl ?_ | refine Sat.ldN 3 h rfl _ rfl rfl ?_ | refine Sat.ldN 4 h rfl _ rfl rfl ?_ | refine Sat.ldN 5 h rfl _ rfl rfl ?_ | refine Sat.ldN 6 h rfl _ rfl rfl ?_ | refine Sat.ldN 7 h rfl _ rfl rfl ?_ | refine Sat.ldN 8 h rfl _ rfl rfl ?_ | refine Sat.ldN 9 h rfl _ rfl rfl ?_); conv => whnf) | ((with_reducible refine Runs.is ?_); (first | refine Sat.store 0 h rfl rfl rfl rfl rfl ?_ | refine Sat.store 1 h rfl rfl rfl rfl rfl ?_ | refine Sat.store 2 h rfl rfl rfl rfl rfl ?_ | refine Sat.store 3 h rfl rfl rfl rfl rfl ?_ | refine Sat.store 4 h rfl rfl rfl rfl rfl ?_ | refine Sat.store 5 h rfl rfl rfl rfl rfl ?_ | refine Sat.store 6 h rfl rfl rfl rfl rfl ?_ | refine Sat.store 7 h rfl rfl rfl rfl rfl ?_ | refine Sat.store 8 h rfl rfl rfl rfl rfl ?_ | refine Sat.store 9 h rfl rfl rfl rfl rfl ?_); (conv => whnf); intro w h; (conv => whnf)))
  refine sel_mk (fun h1 => ?_) (fun h1 => ?_)
  rotate_left
  · conv => whnf
    repeat (first | ((with_reducible refine CW.is ?_); (first | refine CW.run rfl ?_ | refine CW.go ?_); conv => whnf) | ((with_reducible refine Chk.is ?_); refine Chk.mk (by first | decide | (exact ⟨by omega, by omega⟩)) ?_; conv => whnf) | ((with_reducible refine New.is ?_); refine Sat.newK h fun b w h => ?_; conv => whnf) | ((with_reducible refine Ld.is ?_); (first | refine Sat.ld 0 h rfl rfl ?_ | refine Sat.ld 1 h rfl rfl ?_ | refine Sat.ld 2 h rfl rfl ?_ | refine Sat.ld 3 h rfl rfl ?_ | refine Sat.ld 4 h rfl rfl ?_ | refine Sat.ld 5 h rfl rfl ?_ | refine Sat.ld 6 h rfl rfl ?_ | refine Sat.ld 7 h rfl rfl ?_ | refine Sat.ld 8 h rfl rfl ?_ | refine Sat.ld 9 h rfl rfl ?_); conv => whnf) | ((with_reducible refine LdN.is ?_); (first | refine Sat.ldN 0 h rfl _ rfl rfl ?_ | refine Sat.ldN 1 h rfl _ rfl rfl ?_ | refine Sat.ldN 2 h rfl _ rfl rfl ?_ | refine Sat.ldN 3 h rfl _ rfl rfl ?_ | refine Sat.ldN 4 h rfl _ rfl rfl ?_ | refine Sat.ldN 5 h rfl _ rfl rfl ?_ | refine Sat.ldN 6 h rfl _ rfl rfl ?_ | refine Sat.ldN 7 h rfl _ rfl rfl ?_ | refine Sat.ldN 8 h rfl _ rfl rfl ?_ | refine Sat.ldN 9 h rfl _ rfl rfl ?_); conv => whnf) | ((with_reducible refine Runs.is ?_); (first | refine Sat.store 0 h rfl rfl rfl rfl rfl ?_ | refine Sat.store 1 h rfl rfl rfl rfl rfl ?_ | refine Sat.store 2 h rfl rfl rfl rfl rfl ?_ | refine Sat.store 3 h rfl rfl rfl rfl rfl ?_ | refine Sat.store 4 h rfl rfl rfl rfl rfl ?_ | refine Sat.store 5 h rfl rfl rfl rfl rfl ?_ | refine Sat.store 6 h rfl rfl rfl rfl rfl ?_ | refine Sat.store 7 h rfl rfl rfl rfl rfl ?_ | refine Sat.store 8 h rfl rfl rfl rfl rfl ?_ | refine Sat.store 9 h rfl rfl rfl rfl rfl ?_); (conv => whnf); intro w h; (conv => whnf)))
    refine Sat.bringK [3] h ?_
    conv => whnf
    clear h; intro h
    refine CallF.ret (memAll_any (b := C) (l := l) (by omega) β w _ h) (Try.call21 _ _) ?_
    rintro _ w ⟨a4, c4, rfl, h⟩
    refine ⟨_, rfl, ?_⟩
    have hr4 := h.rds 0 rfl
    generalize eA : (Own 33 2 encN a4 c4 l :: [Plain C l, Plain p cur, WinO inb m p f n, row A4 38 [.int .i64 f, .int .i64 n], Own 33 2 encN a' c' cur]) = As at h hr4
    conv => whnf
    repeat (first | (refine CW.run rfl ?_; conv => whnf) | (refine CW.go ?_; conv => whnf))
    refine CW.draw [(0, 2), (1, 0), (2, 0), (3, 0), (4, 2), (5, 0), (6, 0), (7, 0), (8, 0), (9, 0), (10, 0), (12, 0), (13, 1), (11, 2), (14, 0), (15, 0), (16, 0), (17, 0)] rfl (by kernel_rfl) (fun u => Sat β u As) (fun w e1 e2 e3 e4 => ⟨h.draw e1 e2 e3 e4, ?_⟩)
    replace h := h.draw e1 e2 e3 e4
    clear e1 e2 e3 e4
    conv => whnf
    refine alive2_any.call h (Try.call15 _ _) fun w h => ⟨h, ?_⟩
    conv => whnf
    refine CallF.val (same_any (by omega) β w _ h hr4 (hr _)) (Try.call24 _ _) fun w h => ⟨h, ?_⟩
    conv => whnf
    refine sel_true (by simp) ?_
    conv => whnf
    have e1 : decide (l = l) = true := by simp
    rw [e1]
    subst eA
    cases inb with
    | false =>
      conv => whnf
      repeat (first | (refine CW.run rfl ?_; conv => whnf) | (refine CW.go ?_; conv => whnf))
      exact ⟨rfl, h.drop⟩
    | true =>
      conv => whnf
      refine Chk.mk (by decide) ?_
      conv => whnf
      refine LdG.mk (.int .i64 n) ?_ ?_
      · exact fun u hu => Sat.cell 4 hu rfl rfl
      conv => whnf
      refine CallF.val (wsize_any (b := m) β w _ (h.front 3 rfl)) (Try.call32 _ _) fun w h => ⟨(h.bring [1, 2, 3, 0, 4, 5]), ?_⟩
      conv => whnf
      repeat (first | (refine CW.run rfl ?_; conv => whnf) | (refine CW.go ?_; conv => whnf))
      exact ⟨retB (by simp), h.drop⟩
  have hlt : k < L.length := by simpa using h1
  have hx := List.getElem?_eq_getElem hlt
  generalize L[k] = x at hx
  obtain ⟨wr, i, v⟩ := x
  conv => whnf
  repeat (first | ((with_reducible refine CW.is ?_); (first | refine CW.run rfl ?_ | refine CW.go ?_); conv => whnf) | ((with_reducible refine Chk.is ?_); refine Chk.mk (by first | decide | (exact ⟨by omega, by omega⟩)) ?_; conv => whnf) | ((with_reducible refine New.is ?_); refine Sat.newK h fun b w h => ?_; conv => whnf) | ((with_reducible refine Ld.is ?_); (first | refine Sat.ld 0 h rfl rfl ?_ | refine Sat.ld 1 h rfl rfl ?_ | refine Sat.ld 2 h rfl rfl ?_ | refine Sat.ld 3 h rfl rfl ?_ | refine Sat.ld 4 h rfl rfl ?_ | refine Sat.ld 5 h rfl rfl ?_ | refine Sat.ld 6 h rfl rfl ?_ | refine Sat.ld 7 h rfl rfl ?_ | refine Sat.ld 8 h rfl rfl ?_ | refine Sat.ld 9 h rfl rfl ?_); conv => whnf) | ((with_reducible refine LdN.is ?_); (first | refine Sat.ldN 0 h rfl _ rfl rfl ?_ | refine Sat.ldN 1 h rfl _ rfl rfl ?_ | refine Sat.ldN 2 h rfl _ rfl rfl ?_ | refine Sat.ldN 3 h rfl _ rfl rfl ?_ | refine Sat.ldN 4 h rfl _ rfl rfl ?_ | refine Sat.ldN 5 h rfl _ rfl rfl ?_ | refine Sat.ldN 6 h rfl _ rfl rfl ?_ | refine Sat.ldN 7 h rfl _ rfl rfl ?_ | refine Sat.ldN 8 h rfl _ rfl rfl ?_ | refine Sat.ldN 9 h rfl _ rfl rfl ?_); conv => whnf) | ((with_reducible refine Runs.is ?_); (first | refine Sat.store 0 h rfl rfl rfl rfl rfl ?_ | refine Sat.store 1 h rfl rfl rfl rfl rfl ?_ | refine Sat.store 2 h rfl rfl rfl rfl rfl ?_ | refine Sat.store 3 h rfl rfl rfl rfl rfl ?_ | refine Sat.store 4 h rfl rfl rfl rfl rfl ?_ | refine Sat.store 5 h rfl rfl rfl rfl rfl ?_ | refine Sat.store 6 h rfl rfl rfl rfl rfl ?_ | refine Sat.store 7 h rfl rfl rfl rfl rfl ?_ | refine Sat.store 8 h rfl rfl rfl rfl rfl ?_ | refine Sat.store 9 h rfl rfl rfl rfl rfl ?_); (conv => whnf); intro w h; (conv => whnf)))
  refine Chk.mk ⟨by omega, by omega, (hr2 []).okLt hlt⟩ ?_
  conv => whnf
  repeat (first | ((with_reducible refine CW.is ?_); (first | refine CW.run rfl ?_ | refine CW.go ?_); conv => whnf) | ((with_reducible refine Chk.is ?_); refine Chk.mk (by first | decide | (exact ⟨by omega, by omega⟩)) ?_; conv => whnf) | ((with_reducible refine New.is ?_); refine Sat.newK h fun b w h => ?_; conv => whnf) | ((with_reducible refine Ld.is ?_); (first | refine Sat.ld 0 h rfl rfl ?_ | refine Sat.ld 1 h rfl rfl ?_ | refine Sat.ld 2 h rfl rfl ?_ | refine Sat.ld 3 h rfl rfl ?_ | refine Sat.ld 4 h rfl rfl ?_ | refine Sat.ld 5 h rfl rfl ?_ | refine Sat.ld 6 h rfl rfl ?_ | refine Sat.ld 7 h rfl rfl ?_ | refine Sat.ld 8 h rfl rfl ?_ | refine Sat.ld 9 h rfl rfl ?_); conv => whnf) | ((with_reducible refine LdN.is ?_); (first | refine Sat.ldN 0 h rfl _ rfl rfl ?_ | refine Sat.ldN 1 h rfl _ rfl rfl ?_ | refine Sat.ldN 2 h rfl _ rfl rfl ?_ | refine Sat.ldN 3 h rfl _ rfl rfl ?_ | refine Sat.ldN 4 h rfl _ rfl rfl ?_ | refine Sat.ldN 5 h rfl _ rfl rfl ?_ | refine Sat.ldN 6 h rfl _ rfl rfl ?_ | refine Sat.ldN 7 h rfl _ rfl rfl ?_ | refine Sat.ldN 8 h rfl _ rfl rfl ?_ | refine Sat.ldN 9 h rfl _ rfl rfl ?_); conv => whnf) | ((with_reducible refine Runs.is ?_); (first | refine Sat.store 0 h rfl rfl rfl rfl rfl ?_ | refine Sat.store 1 h rfl rfl rfl rfl rfl ?_ | refine Sat.store 2 h rfl rfl rfl rfl rfl ?_ | refine Sat.store 3 h rfl rfl rfl rfl rfl ?_ | refine Sat.store 4 h rfl rfl rfl rfl rfl ?_ | refine Sat.store 5 h rfl rfl rfl rfl rfl ?_ | refine Sat.store 6 h rfl rfl rfl rfl rfl ?_ | refine Sat.store 7 h rfl rfl rfl rfl rfl ?_ | refine Sat.store 8 h rfl rfl rfl rfl rfl ?_ | refine Sat.store 9 h rfl rfl rfl rfl rfl ?_); (conv => whnf); intro w h; (conv => whnf)))
  refine (hr2 _).ldN (i := k) h hx rfl (by simp) ?_
  conv => whnf
  refine h.newK fun A w h => ?_
  conv => whnf
  refine h.store 0 rfl rfl rfl rfl rfl ?_
  conv => whnf
  intro w h
  conv => whnf
  refine CW.run rfl ?_
  conv => whnf
  refine h.newK fun X w h => ?_
  conv => whnf
  refine h.store 0 rfl rfl rfl rfl rfl ?_
  conv => whnf
  intro w h
  conv => whnf
  refine CW.run rfl ?_
  conv => whnf
  refine CW.run rfl ?_
  conv => whnf
  refine h.newK fun F w h => ?_
  conv => whnf
  refine h.store 0 rfl rfl rfl rfl rfl ?_
  conv => whnf
  intro w h
  conv => whnf
  refine CW.join [0, 2, 4, 7, 10, 12, 13, 14, 15, 16, 17, 18, 19, 20] (fun vs w => ∃ pt : Bool, (pt = true → inb = true) ∧ vs = [.slice a l.length c, .slice a2 L.length c2, ptr A4, ptr p, mV inb m, .bool inb, ptr C, .slice a' cur.length c', .int .i64 k, ptr A, ptr X, .int .i64 0, ptr F, .bool pt] ∧
    Sat β w [row F 38 [.int .i64 0, .int .i64 cur.length], row X 33 [.int .i64 0, .int .i64 0], row A 35 [.bool wr, .int .i64 i, .int .i64 v.1, .int .i64 v.2], Plain p cur, WinO inb m p f n, row A4 38 [.int .i64 f, .int .i64 n], Plain C l, Own 33 2 encN a' c' cur]) ?_ ?_
  · clear hinb hp
    cases inb
    · conv => whnf
      repeat (first | ((with_reducible refine CW.is ?_); (first | refine CW.run rfl ?_ | refine CW.go ?_); conv => whnf) | ((with_reducible refine Chk.is ?_); refine Chk.mk (by first | decide | (exact ⟨by omega, by omega⟩)) ?_; conv => whnf) | ((with_reducible refine New.is ?_); refine Sat.newK h fun b w h => ?_; conv => whnf) | ((with_reducible refine Ld.is ?_); (first | refine Sat.ld 0 h rfl rfl ?_ | refine Sat.ld 1 h rfl rfl ?_ | refine Sat.ld 2 h rfl rfl ?_ | refine Sat.ld 3 h rfl rfl ?_ | refine Sat.ld 4 h rfl rfl ?_ | refine Sat.ld 5 h rfl rfl ?_ | refine Sat.ld 6 h rfl rfl ?_ | refine Sat.ld 7 h rfl rfl ?_ | refine Sat.ld 8 h rfl rfl ?_ | refine Sat.ld 9 h rfl rfl ?_); conv => whnf) | ((with_reducible refine LdN.is ?_); (first | refine Sat.ldN 0 h rfl _ rfl rfl ?_ | refine Sat.ldN 1 h rfl _ rfl rfl ?_ | refine Sat.ldN 2 h rfl _ rfl rfl ?_ | refine Sat.ldN 3 h rfl _ rfl rfl ?_ | refine Sat.ldN 4 h rfl _ rfl rfl ?_ | refine Sat.ldN 5 h rfl _ rfl rfl ?_ | refine Sat.ldN 6 h rfl _ rfl rfl ?_ | refine Sat.ldN 7 h rfl _ rfl rfl ?_ | refine Sat.ldN 8 h rfl _ rfl rfl ?_ | refine Sat.ldN 9 h rfl _ rfl rfl ?_); conv => whnf) | ((with_reducible refine Runs.is ?_); (first | refine Sat.store 0 h rfl rfl rfl rfl rfl ?_ | refine Sat.store 1 h rfl rfl rfl rfl rfl ?_ | refine Sat.store 2 h rfl rfl rfl rfl rfl ?_ | refine Sat.store 3 h rfl rfl rfl rfl rfl ?_ | refine Sat.store 4 h rfl rfl rfl rfl rfl ?_ | refine Sat.store 5 h rfl rfl rfl rfl rfl ?_ | refine Sat.store 6 h rfl rfl rfl rfl rfl ?_ | refine Sat.store 7 h rfl rfl rfl rfl rfl ?_ | refine Sat.store 8 h rfl rfl rfl rfl rfl ?_ | refine Sat.store 9 h rfl rfl rfl rfl rfl ?_); (conv => whnf); intro w h; (conv => whnf)))
      exact ⟨false, by simp, rfl, h⟩
    · conv => whnf
      repeat (first | ((with_reducible refine CW.is ?_); (first | refine CW.run rfl ?_ | refine CW.go ?_); conv => whnf) | ((with_reducible refine Chk.is ?_); refine Chk.mk (by first | decide | (exact ⟨by omega, by omega⟩)) ?_; conv => whnf) | ((with_reducible refine New.is ?_); refine Sat.newK h fun b w h => ?_; conv => whnf) | ((with_reducible refine Ld.is ?_); (first | refine Sat.ld 0 h rfl rfl ?_ | refine Sat.ld 1 h rfl rfl ?_ | refine Sat.ld 2 h rfl rfl ?_ | refine Sat.ld 3 h rfl rfl ?_ | refine Sat.ld 4 h rfl rfl ?_ | refine Sat.ld 5 h rfl rfl ?_ | refine Sat.ld 6 h rfl rfl ?_ | refine Sat.ld 7 h rfl rfl ?_ | refine Sat.ld 8 h rfl rfl ?_ | refine Sat.ld 9 h rfl rfl ?_); conv => whnf) | ((with_reducible refine LdN.is ?_); (first | refine Sat.ldN 0 h rfl _ rfl rfl ?_ | refine Sat.ldN 1 h rfl _ rfl rfl ?_ | refine Sat.ldN 2 h rfl _ rfl rfl ?_ | refine Sat.ldN 3 h rfl _ rfl rfl ?_ | refine Sat.ldN 4 h rfl _ rfl rfl ?_ | refine Sat.ldN 5 h rfl _ rfl rfl ?_ | refine Sat.ldN 6 h rfl _ rfl rfl ?_ | refine Sat.ldN 7 h rfl _ rfl rfl ?_ | refine Sat.ldN 8 h rfl _ rfl rfl ?_ | refine Sat.ldN 9 h rfl _ rfl rfl ?_); conv => whnf) | ((with_reducible refine Runs.is ?_); (first | refine Sat.store 0 h rfl rfl rfl rfl rfl ?_ | refine Sat.store 1 h rfl rfl rfl rfl rfl ?_ | refine Sat.store 2 h rfl rfl rfl rfl rfl ?_ | refine Sat.store 3 h rfl rfl rfl rfl rfl ?_ | refine Sat.store 4 h rfl rfl rfl rfl rfl ?_ | refine Sat.store 5 h rfl rfl rfl rfl rfl ?_ | refine Sat.store 6 h rfl rfl rfl rfl rfl ?_ | refine Sat.store 7 h rfl rfl rfl rfl rfl ?_ | refine Sat.store 8 h rfl rfl rfl rfl rfl ?_ | refine Sat.store 9 h rfl rfl rfl rfl rfl ?_); (conv => whnf); intro w h; (conv => whnf)))
      exact ⟨_, by simp, rfl, h⟩
  clear h
  rintro _ w ⟨pt, hpt, rfl, h⟩
  conv => whnf
  repeat (refine CW.run rfl ?_; conv => whnf)
  refine CW.join [0, 2, 4, 7, 10, 12, 13, 14, 15, 16, 17, 18, 19, 20] (fun vs w => ∃ F1 F2 : Int, ((pt = true ∧ inb = true ∧ F1 = f ∧ F2 = n) ∨ (pt = false ∧ F1 = 0 ∧ F2 = cur.length)) ∧ vs = [.slice a l.length c, .slice a2 L.length c2, ptr A4, ptr p, mV inb m, .bool inb, ptr C, .slice a' cur.length c', .int .i64 k, ptr A, ptr X, .int .i64 0, ptr F, .bool pt] ∧
    Sat β w [row F 38 [.int .i64 F1, .int .i64 F2], row X 33 [.int .i64 0, .int .i64 0], row A 35 [.bool wr, .int .i64 i, .int .i64 v.1, .int .i64 v.2], Plain p cur, WinO inb m p f n, row A4 38 [.int .i64 f, .int .i64 n], Plain C l, Own 33 2 encN a' c' cur]) ?_ ?_
  · cases pt
    · conv => whnf
      repeat (first | ((with_reducible refine CW.is ?_); (first | refine CW.run rfl ?_ | refine CW.go ?_); conv => whnf) | ((with_reducible refine Chk.is ?_); refine Chk.mk (by first | decide | (exact ⟨by omega, by omega⟩)) ?_; conv => whnf) | ((with_reducible refine New.is ?_); refine Sat.newK h fun b w h => ?_; conv => whnf) | ((with_reducible refine Ld.is ?_); (first | refine Sat.ld 0 h rfl rfl ?_ | refine Sat.ld 1 h rfl rfl ?_ | refine Sat.ld 2 h rfl rfl ?_ | refine Sat.ld 3 h rfl rfl ?_ | refine Sat.ld 4 h rfl rfl ?_ | refine Sat.ld 5 h rfl rfl ?_ | refine Sat.ld 6 h rfl rfl ?_ | refine Sat.ld 7 h rfl rfl ?_ | refine Sat.ld 8 h rfl rfl ?_ | refine Sat.ld 9 h rfl rfl ?_); conv => whnf) | ((with_reducible refine LdN.is ?_); (first | refine Sat.ldN 0 h rfl _ rfl rfl ?_ | refine Sat.ldN 1 h rfl _ rfl rfl ?_ | refine Sat.ldN 2 h rfl _ rfl rfl ?_ | refine Sat.ldN 3 h rfl _ rfl rfl ?_ | refine Sat.ldN 4 h rfl _ rfl rfl ?_ | refine Sat.ldN 5 h rfl _ rfl rfl ?_ | refine Sat.ldN 6 h rfl _ rfl rfl ?_ | refine Sat.ldN 7 h rfl _ rfl rfl ?_ | refine Sat.ldN 8 h rfl _ rfl rfl ?_ | refine Sat.ldN 9 h rfl _ rfl rfl ?_); conv => whnf) | ((with_reducible refine Runs.is ?_); (first | refine Sat.store 0 h rfl rfl rfl rfl rfl ?_ | refine Sat.store 1 h rfl rfl rfl rfl rfl ?_ | refine Sat.store 2 h rfl rfl rfl rfl rfl ?_ | refine Sat.store 3 h rfl rfl rfl rfl rfl ?_ | refine Sat.store 4 h rfl rfl rfl rfl rfl ?_ | refine Sat.store 5 h rfl rfl rfl rfl rfl ?_ | refine Sat.store 6 h rfl rfl rfl rfl rfl ?_ | refine Sat.store 7 h rfl rfl rfl rfl rfl ?_ | refine Sat.store 8 h rfl rfl rfl rfl rfl ?_ | refine Sat.store 9 h rfl rfl rfl rfl rfl ?_); (conv => whnf); intro w h; (conv => whnf)))
      exact ⟨_, _, .inr ⟨rfl, rfl, rfl⟩, rfl, h⟩
    · conv => whnf
      repeat (first | ((with_reducible refine CW.is ?_); (first | refine CW.run rfl ?_ | refine CW.go ?_); conv => whnf) | ((with_reducible refine Chk.is ?_); refine Chk.mk (by first | decide | (exact ⟨by omega, by omega⟩)) ?_; conv => whnf) | ((with_reducible refine New.is ?_); refine Sat.newK h fun b w h => ?_; conv => whnf) | ((with_reducible refine Ld.is ?_); (first | refine Sat.ld 0 h rfl rfl ?_ | refine Sat.ld 1 h rfl rfl ?_ | refine Sat.ld 2 h rfl rfl ?_ | refine Sat.ld 3 h rfl rfl ?_ | refine Sat.ld 4 h rfl rfl ?_ | refine Sat.ld 5 h rfl rfl ?_ | refine Sat.ld 6 h rfl rfl ?_ | refine Sat.ld 7 h rfl rfl ?_ | refine Sat.ld 8 h rfl rfl ?_ | refine Sat.ld 9 h rfl rfl ?_); conv => whnf) | ((with_reducible refine LdN.is ?_); (first | refine Sat.ldN 0 h rfl _ rfl rfl ?_ | refine Sat.ldN 1 h rfl _ rfl rfl ?_ | refine Sat.ldN 2 h rfl _ rfl rfl ?_ | refine Sat.ldN 3 h rfl _ rfl rfl ?_ | refine Sat.ldN 4 h rfl _ rfl rfl ?_ | refine Sat.ldN 5 h rfl _ rfl rfl ?_ | refine Sat.ldN 6 h rfl _ rfl rfl ?_ | refine Sat.ldN 7 h rfl _ rfl rfl ?_ | refine Sat.ldN 8 h rfl _ rfl rfl ?_ | refine Sat.ldN 9 h rfl _ rfl rfl ?_); conv => whnf) | ((with_reducible refine Runs.is ?_); (first | refine Sat.store 0 h rfl rfl rfl rfl rfl ?_ | refine Sat.store 1 h rfl rfl rfl rfl rfl ?_ | refine Sat.store 2 h rfl rfl rfl rfl rfl ?_ | refine Sat.store 3 h rfl rfl rfl rfl rfl ?_ | refine Sat.store 4 h rfl rfl rfl rfl rfl ?_ | refine Sat.store 5 h rfl rfl rfl rfl rfl ?_ | refine Sat.store 6 h rfl rfl rfl rfl rfl ?_ | refine Sat.store 7 h rfl rfl rfl rfl rfl ?_ | refine Sat.store 8 h rfl rfl rfl rfl rfl ?_ | refine Sat.store 9 h rfl rfl rfl rfl rfl ?_); (conv => whnf); intro w h; (conv => whnf)))
      exact ⟨_, _, .inl ⟨rfl, hpt rfl, rfl, rfl⟩, rfl, h⟩
  clear h
  rintro _ w ⟨F1, F2, hF, rfl, h⟩
  have hF1 : 0 ≤ F1 ∧ F1 + F2 ≤ 9223372036854775807 := by
    rcases hF with ⟨_, hi, rfl, rfl⟩ | ⟨_, rfl, rfl⟩
    · have := hp.1 hi; omega
    · omega
  conv => whnf
  repeat (first | ((with_reducible refine CW.is ?_); (first | refine CW.run rfl ?_ | refine CW.go ?_); conv => whnf) | ((with_reducible refine Chk.is ?_); refine Chk.mk (by first | decide | (exact ⟨by omega, by omega⟩)) ?_; conv => whnf) | ((with_reducible refine New.is ?_); refine Sat.newK h fun b w h => ?_; conv => whnf) | ((with_reducible refine Ld.is ?_); (first | refine Sat.ld 0 h rfl rfl ?_ | refine Sat.ld 1 h rfl rfl ?_ | refine Sat.ld 2 h rfl rfl ?_ | refine Sat.ld 3 h rfl rfl ?_ | refine Sat.ld 4 h rfl rfl ?_ | refine Sat.ld 5 h rfl rfl ?_ | refine Sat.ld 6 h rfl rfl ?_ | refine Sat.ld 7 h rfl rfl ?_ | refine Sat.ld 8 h rfl rfl ?_ | refine Sat.ld 9 h rfl rfl ?_); conv => whnf) | ((with_reducible refine LdN.is ?_); (first | refine Sat.ldN 0 h rfl _ rfl rfl ?_ | refine Sat.ldN 1 h rfl _ rfl rfl ?_ | refine Sat.ldN 2 h rfl _ rfl rfl ?_ | refine Sat.ldN 3 h rfl _ rfl rfl ?_ | refine Sat.ldN 4 h rfl _ rfl rfl ?_ | refine Sat.ldN 5 h rfl _ rfl rfl ?_ | refine Sat.ldN 6 h rfl _ rfl rfl ?_ | refine Sat.ldN 7 h rfl _ rfl rfl ?_ | refine Sat.ldN 8 h rfl _ rfl rfl ?_ | refine Sat.ldN 9 h rfl _ rfl rfl ?_); conv => whnf) | ((with_reducible refine Runs.is ?_); (first | refine Sat.store 0 h rfl rfl rfl rfl rfl ?_ | refine Sat.store 1 h rfl rfl rfl rfl rfl ?_ | refine Sat.store 2 h rfl rfl rfl rfl rfl ?_ | refine Sat.store 3 h rfl rfl rfl rfl rfl ?_ | refine Sat.store 4 h rfl rfl rfl rfl rfl ?_ | refine Sat.store 5 h rfl rfl rfl rfl rfl ?_ | refine Sat.store 6 h rfl rfl rfl rfl rfl ?_ | refine Sat.store 7 h rfl rfl rfl rfl rfl ?_ | refine Sat.store 8 h rfl rfl rfl rfl rfl ?_ | refine Sat.store 9 h rfl rfl rfl rfl rfl ?_); (conv => whnf); intro w h; (conv => whnf)))
  refine CallF.ret (want_any (wr, i, v) (f := F1) (n := F2) hF1.1 hF1.2 (by omega) β w _ h (h.rds 7 rfl)) (Try.call18 _ _) ?_
  rintro _ w ⟨a'', c'', rfl, hw⟩
  refine ⟨_, rfl, ?_⟩
  clear h
  have wl := wantL_len cur F1 F2 (wr, i, v)
  have wrd := wantW_rd cur F1 F2 i v
  have wwr := wantW_wr cur F1 F2 i v
  have prd := wantP_rd cur i v
  have pwr := wantP_wr cur i v
  generalize eL : wantL cur F1 F2 (wr, i, v) = wL at hw wl
  generalize eX : wantX cur F1 F2 (wr, i, v) = wX
  generalize eE : wantE cur F1 F2 (wr, i, v) = wE
  have h : ∃ a3 c3, a'' = a3 ∧ c'' = c3 ∧ Sat β w [row X 33 [.int .i64 0, .int .i64 0], row A 35 [.bool wr, .int .i64 i, .int .i64 v.1, .int .i64 v.2], Plain p cur, WinO inb m p f n, row A4 38 [.int .i64 f, .int .i64 n], Plain C l, Own 33 2 encN a'' c'' wL] := by
    refine ⟨_, _, rfl, rfl, ?_⟩
    rcases hw with ⟨rfl, rfl, rfl, h⟩ | h
    · exact h.keep [1, 2, 3, 4, 5, 6, 7]
    · exact h.keep [2, 3, 4, 5, 6, 7, 0]
  obtain ⟨_, _, rfl, rfl, h⟩ := h
  conv => whnf
  refine h.newK fun Y w h => ?_
  conv => whnf
  refine h.store 0 rfl rfl rfl rfl rfl ?_
  conv => whnf
  intro w h
  conv => whnf
  repeat (refine CW.run rfl ?_; conv => whnf)
  refine CW.join [0, 2, 4, 7, 10, 12, 13, 14, 15, 17, 18, 22, 23] (fun vs w =>
    vs = [.slice a l.length c, .slice a2 L.length c2, ptr A4, ptr p, mV inb m, .bool inb, ptr C, .slice a'' wL.length c'', .int .i64 k, ptr X, .int .i64 wE, ptr Y, .int .i64 wE] ∧
    Sat β w [Plain p wL, row X 33 [.int .i64 wX.1, .int .i64 wX.2], row Y 33 [.int .i64 wX.1, .int .i64 wX.2], WinO inb m p f n, row A4 38 [.int .i64 f, .int .i64 n], Plain C l, Own 33 2 encN a'' c'' wL]) ?_ ?_
  · rcases hF with ⟨rfl, rfl, rfl, rfl⟩ | ⟨rfl, rfl, rfl⟩
    · cases wr with
      | true =>
        have ex : wX = (0, 0) := by rw [← eX]; rfl
        subst ex
        rw [eE, eL] at wwr
        conv => whnf
        repeat (first | ((with_reducible refine CW.is ?_); (first | refine CW.run rfl ?_ | refine CW.go ?_); conv => whnf) | ((with_reducible refine Chk.is ?_); refine Chk.mk (by first | decide | (exact ⟨by omega, by omega⟩)) ?_; conv => whnf) | ((with_reducible refine New.is ?_); refine Sat.newK h fun b w h => ?_; conv => whnf) | ((with_reducible refine Ld.is ?_); (first | refine Sat.ld 0 h rfl rfl ?_ | refine Sat.ld 1 h rfl rfl ?_ | refine Sat.ld 2 h rfl rfl ?_ | refine Sat.ld 3 h rfl rfl ?_ | refine Sat.ld 4 h rfl rfl ?_ | refine Sat.ld 5 h rfl rfl ?_ | refine Sat.ld 6 h rfl rfl ?_ | refine Sat.ld 7 h rfl rfl ?_ | refine Sat.ld 8 h rfl rfl ?_ | refine Sat.ld 9 h rfl rfl ?_); conv => whnf) | ((with_reducible refine LdN.is ?_); (first | refine Sat.ldN 0 h rfl _ rfl rfl ?_ | refine Sat.ldN 1 h rfl _ rfl rfl ?_ | refine Sat.ldN 2 h rfl _ rfl rfl ?_ | refine Sat.ldN 3 h rfl _ rfl rfl ?_ | refine Sat.ldN 4 h rfl _ rfl rfl ?_ | refine Sat.ldN 5 h rfl _ rfl rfl ?_ | refine Sat.ldN 6 h rfl _ rfl rfl ?_ | refine Sat.ldN 7 h rfl _ rfl rfl ?_ | refine Sat.ldN 8 h rfl _ rfl rfl ?_ | refine Sat.ldN 9 h rfl _ rfl rfl ?_); conv => whnf) | ((with_reducible refine Runs.is ?_); (first | refine Sat.store 0 h rfl rfl rfl rfl rfl ?_ | refine Sat.store 1 h rfl rfl rfl rfl rfl ?_ | refine Sat.store 2 h rfl rfl rfl rfl rfl ?_ | refine Sat.store 3 h rfl rfl rfl rfl rfl ?_ | refine Sat.store 4 h rfl rfl rfl rfl rfl ?_ | refine Sat.store 5 h rfl rfl rfl rfl rfl ?_ | refine Sat.store 6 h rfl rfl rfl rfl rfl ?_ | refine Sat.store 7 h rfl rfl rfl rfl rfl ?_ | refine Sat.store 8 h rfl rfl rfl rfl rfl ?_ | refine Sat.store 9 h rfl rfl rfl rfl rfl ?_); (conv => whnf); intro w h; (conv => whnf)))
        refine Sat.bringK [4, 3] h ?_
        conv => whnf
        clear h; intro h
        have cc := wwrite_any (b := m) (plainMem p) (s := cur) i v hF1.1 (by omega) β w _ h
        rw [wwr] at cc
        refine CallF.val cc (Try.call27 _ _) fun w h => ?_
        conv => whnf
        repeat (first | ((with_reducible refine CW.is ?_); (first | refine CW.run rfl ?_ | refine CW.go ?_); conv => whnf) | ((with_reducible refine Chk.is ?_); refine Chk.mk (by first | decide | (exact ⟨by omega, by omega⟩)) ?_; conv => whnf) | ((with_reducible refine New.is ?_); refine Sat.newK h fun b w h => ?_; conv => whnf) | ((with_reducible refine Ld.is ?_); (first | refine Sat.ld 0 h rfl rfl ?_ | refine Sat.ld 1 h rfl rfl ?_ | refine Sat.ld 2 h rfl rfl ?_ | refine Sat.ld 3 h rfl rfl ?_ | refine Sat.ld 4 h rfl rfl ?_ | refine Sat.ld 5 h rfl rfl ?_ | refine Sat.ld 6 h rfl rfl ?_ | refine Sat.ld 7 h rfl rfl ?_ | refine Sat.ld 8 h rfl rfl ?_ | refine Sat.ld 9 h rfl rfl ?_); conv => whnf) | ((with_reducible refine LdN.is ?_); (first | refine Sat.ldN 0 h rfl _ rfl rfl ?_ | refine Sat.ldN 1 h rfl _ rfl rfl ?_ | refine Sat.ldN 2 h rfl _ rfl rfl ?_ | refine Sat.ldN 3 h rfl _ rfl rfl ?_ | refine Sat.ldN 4 h rfl _ rfl rfl ?_ | refine Sat.ldN 5 h rfl _ rfl rfl ?_ | refine Sat.ldN 6 h rfl _ rfl rfl ?_ | refine Sat.ldN 7 h rfl _ rfl rfl ?_ | refine Sat.ldN 8 h rfl _ rfl rfl ?_ | refine Sat.ldN 9 h rfl _ rfl rfl ?_); conv => whnf) | ((with_reducible refine Runs.is ?_); (first | refine Sat.store 0 h rfl rfl rfl rfl rfl ?_ | refine Sat.store 1 h rfl rfl rfl rfl rfl ?_ | refine Sat.store 2 h rfl rfl rfl rfl rfl ?_ | refine Sat.store 3 h rfl rfl rfl rfl rfl ?_ | refine Sat.store 4 h rfl rfl rfl rfl rfl ?_ | refine Sat.store 5 h rfl rfl rfl rfl rfl ?_ | refine Sat.store 6 h rfl rfl rfl rfl rfl ?_ | refine Sat.store 7 h rfl rfl rfl rfl rfl ?_ | refine Sat.store 8 h rfl rfl rfl rfl rfl ?_ | refine Sat.store 9 h rfl rfl rfl rfl rfl ?_); (conv => whnf); intro w h; (conv => whnf)))
        exact ⟨rfl, h.keep [1, 3, 2, 0, 5, 6, 7]⟩
      | false =>
        rw [eX, eE, eL] at wrd
        conv => whnf
        repeat (first | ((with_reducible refine CW.is ?_); (first | refine CW.run rfl ?_ | refine CW.go ?_); conv => whnf) | ((with_reducible refine Chk.is ?_); refine Chk.mk (by first | decide | (exact ⟨by omega, by omega⟩)) ?_; conv => whnf) | ((with_reducible refine New.is ?_); refine Sat.newK h fun b w h => ?_; conv => whnf) | ((with_reducible refine Ld.is ?_); (first | refine Sat.ld 0 h rfl rfl ?_ | refine Sat.ld 1 h rfl rfl ?_ | refine Sat.ld 2 h rfl rfl ?_ | refine Sat.ld 3 h rfl rfl ?_ | refine Sat.ld 4 h rfl rfl ?_ | refine Sat.ld 5 h rfl rfl ?_ | refine Sat.ld 6 h rfl rfl ?_ | refine Sat.ld 7 h rfl rfl ?_ | refine Sat.ld 8 h rfl rfl ?_ | refine Sat.ld 9 h rfl rfl ?_); conv => whnf) | ((with_reducible refine LdN.is ?_); (first | refine Sat.ldN 0 h rfl _ rfl rfl ?_ | refine Sat.ldN 1 h rfl _ rfl rfl ?_ | refine Sat.ldN 2 h rfl _ rfl rfl ?_ | refine Sat.ldN 3 h rfl _ rfl rfl ?_ | refine Sat.ldN 4 h rfl _ rfl rfl ?_ | refine Sat.ldN 5 h rfl _ rfl rfl ?_ | refine Sat.ldN 6 h rfl _ rfl rfl ?_ | refine Sat.ldN 7 h rfl _ rfl rfl ?_ | refine Sat.ldN 8 h rfl _ rfl rfl ?_ | refine Sat.ldN 9 h rfl _ rfl rfl ?_); conv => whnf) | ((with_reducible refine Runs.is ?_); (first | refine Sat.store 0 h rfl rfl rfl rfl rfl ?_ | refine Sat.store 1 h rfl rfl rfl rfl rfl ?_ | refine Sat.store 2 h rfl rfl rfl rfl rfl ?_ | refine Sat.store 3 h rfl rfl rfl rfl rfl ?_ | refine Sat.store 4 h rfl rfl rfl rfl rfl ?_ | refine Sat.store 5 h rfl rfl rfl rfl rfl ?_ | refine Sat.store 6 h rfl rfl rfl rfl rfl ?_ | refine Sat.store 7 h rfl rfl rfl rfl rfl ?_ | refine Sat.store 8 h rfl rfl rfl rfl rfl ?_ | refine Sat.store 9 h rfl rfl rfl rfl rfl ?_); (conv => whnf); intro w h; (conv => whnf)))
        refine Sat.bringK [4, 3] h ?_
        conv => whnf
        clear h; intro h
        have cc := wread_any (b := m) (plainMem p) (s := cur) i hF1.1 (by omega) β w _ h
        rw [wrd] at cc
        refine CallF.val cc (Try.call28 _ _) fun w h => ?_
        conv => whnf
        repeat (first | ((with_reducible refine CW.is ?_); (first | refine CW.run rfl ?_ | refine CW.go ?_); conv => whnf) | ((with_reducible refine Chk.is ?_); refine Chk.mk (by first | decide | (exact ⟨by omega, by omega⟩)) ?_; conv => whnf) | ((with_reducible refine New.is ?_); refine Sat.newK h fun b w h => ?_; conv => whnf) | ((with_reducible refine Ld.is ?_); (first | refine Sat.ld 0 h rfl rfl ?_ | refine Sat.ld 1 h rfl rfl ?_ | refine Sat.ld 2 h rfl rfl ?_ | refine Sat.ld 3 h rfl rfl ?_ | refine Sat.ld 4 h rfl rfl ?_ | refine Sat.ld 5 h rfl rfl ?_ | refine Sat.ld 6 h rfl rfl ?_ | refine Sat.ld 7 h rfl rfl ?_ | refine Sat.ld 8 h rfl rfl ?_ | refine Sat.ld 9 h rfl rfl ?_); conv => whnf) | ((with_reducible refine LdN.is ?_); (first | refine Sat.ldN 0 h rfl _ rfl rfl ?_ | refine Sat.ldN 1 h rfl _ rfl rfl ?_ | refine Sat.ldN 2 h rfl _ rfl rfl ?_ | refine Sat.ldN 3 h rfl _ rfl rfl ?_ | refine Sat.ldN 4 h rfl _ rfl rfl ?_ | refine Sat.ldN 5 h rfl _ rfl rfl ?_ | refine Sat.ldN 6 h rfl _ rfl rfl ?_ | refine Sat.ldN 7 h rfl _ rfl rfl ?_ | refine Sat.ldN 8 h rfl _ rfl rfl ?_ | refine Sat.ldN 9 h rfl _ rfl rfl ?_); conv => whnf) | ((with_reducible refine Runs.is ?_); (first | refine Sat.store 0 h rfl rfl rfl rfl rfl ?_ | refine Sat.store 1 h rfl rfl rfl rfl rfl ?_ | refine Sat.store 2 h rfl rfl rfl rfl rfl ?_ | refine Sat.store 3 h rfl rfl rfl rfl rfl ?_ | refine Sat.store 4 h rfl rfl rfl rfl rfl ?_ | refine Sat.store 5 h rfl rfl rfl rfl rfl ?_ | refine Sat.store 6 h rfl rfl rfl rfl rfl ?_ | refine Sat.store 7 h rfl rfl rfl rfl rfl ?_ | refine Sat.store 8 h rfl rfl rfl rfl rfl ?_ | refine Sat.store 9 h rfl rfl rfl rfl rfl ?_); (conv => whnf); intro w h; (conv => whnf)))
        exact ⟨rfl, h.keep [1, 3, 2, 0, 5, 6, 7]⟩
    · cases wr with
      | true =>
        have ex : wX = (0, 0) := by rw [← eX]; rfl
        subst ex
        unfold wrP at pwr
        rw [eE, eL] at pwr
        simp only [Prod.mk.injEq] at pwr
        conv => whnf
        repeat (first | ((with_reducible refine CW.is ?_); (first | refine CW.run rfl ?_ | refine CW.go ?_); conv => whnf) | ((with_reducible refine Chk.is ?_); refine Chk.mk (by first | decide | (exact ⟨by omega, by omega⟩)) ?_; conv => whnf) | ((with_reducible refine New.is ?_); refine Sat.newK h fun b w h => ?_; conv => whnf) | ((with_reducible refine Ld.is ?_); (first | refine Sat.ld 0 h rfl rfl ?_ | refine Sat.ld 1 h rfl rfl ?_ | refine Sat.ld 2 h rfl rfl ?_ | refine Sat.ld 3 h rfl rfl ?_ | refine Sat.ld 4 h rfl rfl ?_ | refine Sat.ld 5 h rfl rfl ?_ | refine Sat.ld 6 h rfl rfl ?_ | refine Sat.ld 7 h rfl rfl ?_ | refine Sat.ld 8 h rfl rfl ?_ | refine Sat.ld 9 h rfl rfl ?_); conv => whnf) | ((with_reducible refine LdN.is ?_); (first | refine Sat.ldN 0 h rfl _ rfl rfl ?_ | refine Sat.ldN 1 h rfl _ rfl rfl ?_ | refine Sat.ldN 2 h rfl _ rfl rfl ?_ | refine Sat.ldN 3 h rfl _ rfl rfl ?_ | refine Sat.ldN 4 h rfl _ rfl rfl ?_ | refine Sat.ldN 5 h rfl _ rfl rfl ?_ | refine Sat.ldN 6 h rfl _ rfl rfl ?_ | refine Sat.ldN 7 h rfl _ rfl rfl ?_ | refine Sat.ldN 8 h rfl _ rfl rfl ?_ | refine Sat.ldN 9 h rfl _ rfl rfl ?_); conv => whnf) | ((with_reducible refine Runs.is ?_); (first | refine Sat.store 0 h rfl rfl rfl rfl rfl ?_ | refine Sat.store 1 h rfl rfl rfl rfl rfl ?_ | refine Sat.store 2 h rfl rfl rfl rfl rfl ?_ | refine Sat.store 3 h rfl rfl rfl rfl rfl ?_ | refine Sat.store 4 h rfl rfl rfl rfl rfl ?_ | refine Sat.store 5 h rfl rfl rfl rfl rfl ?_ | refine Sat.store 6 h rfl rfl rfl rfl rfl ?_ | refine Sat.store 7 h rfl rfl rfl rfl rfl ?_ | refine Sat.store 8 h rfl rfl rfl rfl rfl ?_ | refine Sat.store 9 h rfl rfl rfl rfl rfl ?_); (conv => whnf); intro w h; (conv => whnf)))
        refine Sat.bringK [3] h ?_
        conv => whnf
        clear h; intro h
        have cc := write_any (b := p) (l := cur) i v β w _ h
        rw [pwr.1, pwr.2] at cc
        refine CallF.val cc (Try.call29 _ _) fun w h => ?_
        conv => whnf
        repeat (first | ((with_reducible refine CW.is ?_); (first | refine CW.run rfl ?_ | refine CW.go ?_); conv => whnf) | ((with_reducible refine Chk.is ?_); refine Chk.mk (by first | decide | (exact ⟨by omega, by omega⟩)) ?_; conv => whnf) | ((with_reducible refine New.is ?_); refine Sat.newK h fun b w h => ?_; conv => whnf) | ((with_reducible refine Ld.is ?_); (first | refine Sat.ld 0 h rfl rfl ?_ | refine Sat.ld 1 h rfl rfl ?_ | refine Sat.ld 2 h rfl rfl ?_ | refine Sat.ld 3 h rfl rfl ?_ | refine Sat.ld 4 h rfl rfl ?_ | refine Sat.ld 5 h rfl rfl ?_ | refine Sat.ld 6 h rfl rfl ?_ | refine Sat.ld 7 h rfl rfl ?_ | refine Sat.ld 8 h rfl rfl ?_ | refine Sat.ld 9 h rfl rfl ?_); conv => whnf) | ((with_reducible refine LdN.is ?_); (first | refine Sat.ldN 0 h rfl _ rfl rfl ?_ | refine Sat.ldN 1 h rfl _ rfl rfl ?_ | refine Sat.ldN 2 h rfl _ rfl rfl ?_ | refine Sat.ldN 3 h rfl _ rfl rfl ?_ | refine Sat.ldN 4 h rfl _ rfl rfl ?_ | refine Sat.ldN 5 h rfl _ rfl rfl ?_ | refine Sat.ldN 6 h rfl _ rfl rfl ?_ | refine Sat.ldN 7 h rfl _ rfl rfl ?_ | refine Sat.ldN 8 h rfl _ rfl rfl ?_ | refine Sat.ldN 9 h rfl _ rfl rfl ?_); conv => whnf) | ((with_reducible refine Runs.is ?_); (first | refine Sat.store 0 h rfl rfl rfl rfl rfl ?_ | refine Sat.store 1 h rfl rfl rfl rfl rfl ?_ | refine Sat.store 2 h rfl rfl rfl rfl rfl ?_ | refine Sat.store 3 h rfl rfl rfl rfl rfl ?_ | refine Sat.store 4 h rfl rfl rfl rfl rfl ?_ | refine Sat.store 5 h rfl rfl rfl rfl rfl ?_ | refine Sat.store 6 h rfl rfl rfl rfl rfl ?_ | refine Sat.store 7 h rfl rfl rfl rfl rfl ?_ | refine Sat.store 8 h rfl rfl rfl rfl rfl ?_ | refine Sat.store 9 h rfl rfl rfl rfl rfl ?_); (conv => whnf); intro w h; (conv => whnf)))
        exact ⟨rfl, h.keep [0, 2, 1, 4, 5, 6, 7]⟩
      | false =>
        unfold rdP at prd
        rw [eX, eE, eL] at prd
        simp only [Prod.mk.injEq] at prd
        obtain ⟨prd, rfl⟩ := prd
        conv => whnf
        repeat (first | ((with_reducible refine CW.is ?_); (first | refine CW.run rfl ?_ | refine CW.go ?_); conv => whnf) | ((with_reducible refine Chk.is ?_); refine Chk.mk (by first | decide | (exact ⟨by omega, by omega⟩)) ?_; conv => whnf) | ((with_reducible refine New.is ?_); refine Sat.newK h fun b w h => ?_; conv => whnf) | ((with_reducible refine Ld.is ?_); (first | refine Sat.ld 0 h rfl rfl ?_ | refine Sat.ld 1 h rfl rfl ?_ | refine Sat.ld 2 h rfl rfl ?_ | refine Sat.ld 3 h rfl rfl ?_ | refine Sat.ld 4 h rfl rfl ?_ | refine Sat.ld 5 h rfl rfl ?_ | refine Sat.ld 6 h rfl rfl ?_ | refine Sat.ld 7 h rfl rfl ?_ | refine Sat.ld 8 h rfl rfl ?_ | refine Sat.ld 9 h rfl rfl ?_); conv => whnf) | ((with_reducible refine LdN.is ?_); (first | refine Sat.ldN 0 h rfl _ rfl rfl ?_ | refine Sat.ldN 1 h rfl _ rfl rfl ?_ | refine Sat.ldN 2 h rfl _ rfl rfl ?_ | refine Sat.ldN 3 h rfl _ rfl rfl ?_ | refine Sat.ldN 4 h rfl _ rfl rfl ?_ | refine Sat.ldN 5 h rfl _ rfl rfl ?_ | refine Sat.ldN 6 h rfl _ rfl rfl ?_ | refine Sat.ldN 7 h rfl _ rfl rfl ?_ | refine Sat.ldN 8 h rfl _ rfl rfl ?_ | refine Sat.ldN 9 h rfl _ rfl rfl ?_); conv => whnf) | ((with_reducible refine Runs.is ?_); (first | refine Sat.store 0 h rfl rfl rfl rfl rfl ?_ | refine Sat.store 1 h rfl rfl rfl rfl rfl ?_ | refine Sat.store 2 h rfl rfl rfl rfl rfl ?_ | refine Sat.store 3 h rfl rfl rfl rfl rfl ?_ | refine Sat.store 4 h rfl rfl rfl rfl rfl ?_ | refine Sat.store 5 h rfl rfl rfl rfl rfl ?_ | refine Sat.store 6 h rfl rfl rfl rfl rfl ?_ | refine Sat.store 7 h rfl rfl rfl rfl rfl ?_ | refine Sat.store 8 h rfl rfl rfl rfl rfl ?_ | refine Sat.store 9 h rfl rfl rfl rfl rfl ?_); (conv => whnf); intro w h; (conv => whnf)))
        refine Sat.bringK [3] h ?_
        conv => whnf
        clear h; intro h
        have cc := read_any (b := p) (l := cur) i β w _ h
        rw [prd] at cc
        refine CallF.val cc (Try.call30 _ _) fun w h => ?_
        conv => whnf
        repeat (first | ((with_reducible refine CW.is ?_); (first | refine CW.run rfl ?_ | refine CW.go ?_); conv => whnf) | ((with_reducible refine Chk.is ?_); refine Chk.mk (by first | decide | (exact ⟨by omega, by omega⟩)) ?_; conv => whnf) | ((with_reducible refine New.is ?_); refine Sat.newK h fun b w h => ?_; conv => whnf) | ((with_reducible refine Ld.is ?_); (first | refine Sat.ld 0 h rfl rfl ?_ | refine Sat.ld 1 h rfl rfl ?_ | refine Sat.ld 2 h rfl rfl ?_ | refine Sat.ld 3 h rfl rfl ?_ | refine Sat.ld 4 h rfl rfl ?_ | refine Sat.ld 5 h rfl rfl ?_ | refine Sat.ld 6 h rfl rfl ?_ | refine Sat.ld 7 h rfl rfl ?_ | refine Sat.ld 8 h rfl rfl ?_ | refine Sat.ld 9 h rfl rfl ?_); conv => whnf) | ((with_reducible refine LdN.is ?_); (first | refine Sat.ldN 0 h rfl _ rfl rfl ?_ | refine Sat.ldN 1 h rfl _ rfl rfl ?_ | refine Sat.ldN 2 h rfl _ rfl rfl ?_ | refine Sat.ldN 3 h rfl _ rfl rfl ?_ | refine Sat.ldN 4 h rfl _ rfl rfl ?_ | refine Sat.ldN 5 h rfl _ rfl rfl ?_ | refine Sat.ldN 6 h rfl _ rfl rfl ?_ | refine Sat.ldN 7 h rfl _ rfl rfl ?_ | refine Sat.ldN 8 h rfl _ rfl rfl ?_ | refine Sat.ldN 9 h rfl _ rfl rfl ?_); conv => whnf) | ((with_reducible refine Runs.is ?_); (first | refine Sat.store 0 h rfl rfl rfl rfl rfl ?_ | refine Sat.store 1 h rfl rfl rfl rfl rfl ?_ | refine Sat.store 2 h rfl rfl rfl rfl rfl ?_ | refine Sat.store 3 h rfl rfl rfl rfl rfl ?_ | refine Sat.store 4 h rfl rfl rfl rfl rfl ?_ | refine Sat.store 5 h rfl rfl rfl rfl rfl ?_ | refine Sat.store 6 h rfl rfl rfl rfl rfl ?_ | refine Sat.store 7 h rfl rfl rfl rfl rfl ?_ | refine Sat.store 8 h rfl rfl rfl rfl rfl ?_ | refine Sat.store 9 h rfl rfl rfl rfl rfl ?_); (conv => whnf); intro w h; (conv => whnf)))
        exact ⟨rfl, h.keep [0, 2, 1, 4, 5, 6, 7]⟩
  clear h
  rintro _ w ⟨rfl, h⟩
  conv => whnf
  repeat (first | ((with_reducible refine CW.is ?_); (first | refine CW.run rfl ?_ | refine CW.go ?_); conv => whnf) | ((with_reducible refine Chk.is ?_); refine Chk.mk (by first | decide | (exact ⟨by omega, by omega⟩)) ?_; conv => whnf) | ((with_reducible refine New.is ?_); refine Sat.newK h fun b w h => ?_; conv => whnf) | ((with_reducible refine Ld.is ?_); (first | refine Sat.ld 0 h rfl rfl ?_ | refine Sat.ld 1 h rfl rfl ?_ | refine Sat.ld 2 h rfl rfl ?_ | refine Sat.ld 3 h rfl rfl ?_ | refine Sat.ld 4 h rfl rfl ?_ | refine Sat.ld 5 h rfl rfl ?_ | refine Sat.ld 6 h rfl rfl ?_ | refine Sat.ld 7 h rfl rfl ?_ | refine Sat.ld 8 h rfl rfl ?_ | refine Sat.ld 9 h rfl rfl ?_); conv => whnf) | ((with_reducible refine LdN.is ?_); (first | refine Sat.ldN 0 h rfl _ rfl rfl ?_ | refine Sat.ldN 1 h rfl _ rfl rfl ?_ | refine Sat.ldN 2 h rfl _ rfl rfl ?_ | refine Sat.ldN 3 h rfl _ rfl rfl ?_ | refine Sat.ldN 4 h rfl _ rfl rfl ?_ | refine Sat.ldN 5 h rfl _ rfl rfl ?_ | refine Sat.ldN 6 h rfl _ rfl rfl ?_ | refine Sat.ldN 7 h rfl _ rfl rfl ?_ | refine Sat.ldN 8 h rfl _ rfl rfl ?_ | refine Sat.ldN 9 h rfl _ rfl rfl ?_); conv => whnf) | ((with_reducible refine Runs.is ?_); (first | refine Sat.store 0 h rfl rfl rfl rfl rfl ?_ | refine Sat.store 1 h rfl rfl rfl rfl rfl ?_ | refine Sat.store 2 h rfl rfl rfl rfl rfl ?_ | refine Sat.store 3 h rfl rfl rfl rfl rfl ?_ | refine Sat.store 4 h rfl rfl rfl rfl rfl ?_ | refine Sat.store 5 h rfl rfl rfl rfl rfl ?_ | refine Sat.store 6 h rfl rfl rfl rfl rfl ?_ | refine Sat.store 7 h rfl rfl rfl rfl rfl ?_ | refine Sat.store 8 h rfl rfl rfl rfl rfl ?_ | refine Sat.store 9 h rfl rfl rfl rfl rfl ?_); (conv => whnf); intro w h; (conv => whnf)))
  refine CallF.ret (memAll_any (b := p) (l := wL) (by omega) β w _ h) (Try.call21 _ _) ?_
  rintro _ w ⟨a4, c4, rfl, h⟩
  refine ⟨_, rfl, ?_⟩
  conv => whnf
  repeat (first | ((with_reducible refine CW.is ?_); (first | refine CW.run rfl ?_ | refine CW.go ?_); conv => whnf) | ((with_reducible refine Chk.is ?_); refine Chk.mk (by first | decide | (exact ⟨by omega, by omega⟩)) ?_; conv => whnf) | ((with_reducible refine New.is ?_); refine Sat.newK h fun b w h => ?_; conv => whnf) | ((with_reducible refine Ld.is ?_); (first | refine Sat.ld 0 h rfl rfl ?_ | refine Sat.ld 1 h rfl rfl ?_ | refine Sat.ld 2 h rfl rfl ?_ | refine Sat.ld 3 h rfl rfl ?_ | refine Sat.ld 4 h rfl rfl ?_ | refine Sat.ld 5 h rfl rfl ?_ | refine Sat.ld 6 h rfl rfl ?_ | refine Sat.ld 7 h rfl rfl ?_ | refine Sat.ld 8 h rfl rfl ?_ | refine Sat.ld 9 h rfl rfl ?_); conv => whnf) | ((with_reducible refine LdN.is ?_); (first | refine Sat.ldN 0 h rfl _ rfl rfl ?_ | refine Sat.ldN 1 h rfl _ rfl rfl ?_ | refine Sat.ldN 2 h rfl _ rfl rfl ?_ | refine Sat.ldN 3 h rfl _ rfl rfl ?_ | refine Sat.ldN 4 h rfl _ rfl rfl ?_ | refine Sat.ldN 5 h rfl _ rfl rfl ?_ | refine Sat.ldN 6 h rfl _ rfl rfl ?_ | refine Sat.ldN 7 h rfl _ rfl rfl ?_ | refine Sat.ldN 8 h rfl _ rfl rfl ?_ | refine Sat.ldN 9 h rfl _ rfl rfl ?_); conv => whnf) | ((with_reducible refine Runs.is ?_); (first | refine Sat.store 0 h rfl rfl rfl rfl rfl ?_ | refine Sat.store 1 h rfl rfl rfl rfl rfl ?_ | refine Sat.store 2 h rfl rfl rfl rfl rfl ?_ | refine Sat.store 3 h rfl rfl rfl rfl rfl ?_ | refine Sat.store 4 h rfl rfl rfl rfl rfl ?_ | refine Sat.store 5 h rfl rfl rfl rfl rfl ?_ | refine Sat.store 6 h rfl rfl rfl rfl rfl ?_ | refine Sat.store 7 h rfl rfl rfl rfl rfl ?_ | refine Sat.store 8 h rfl rfl rfl rfl rfl ?_ | refine Sat.store 9 h rfl rfl rfl rfl rfl ?_); (conv => whnf); intro w h; (conv => whnf)))
  refine eqN (xs := wX) (ys := wX) ?_
  conv => whnf
  repeat (first | ((with_reducible refine CW.is ?_); (first | refine CW.run rfl ?_ | refine CW.go ?_); conv => whnf) | ((with_reducible refine Chk.is ?_); refine Chk.mk (by first | decide | (exact ⟨by omega, by omega⟩)) ?_; conv => whnf) | ((with_reducible refine New.is ?_); refine Sat.newK h fun b w h => ?_; conv => whnf) | ((with_reducible refine Ld.is ?_); (first | refine Sat.ld 0 h rfl rfl ?_ | refine Sat.ld 1 h rfl rfl ?_ | refine Sat.ld 2 h rfl rfl ?_ | refine Sat.ld 3 h rfl rfl ?_ | refine Sat.ld 4 h rfl rfl ?_ | refine Sat.ld 5 h rfl rfl ?_ | refine Sat.ld 6 h rfl rfl ?_ | refine Sat.ld 7 h rfl rfl ?_ | refine Sat.ld 8 h rfl rfl ?_ | refine Sat.ld 9 h rfl rfl ?_); conv => whnf) | ((with_reducible refine LdN.is ?_); (first | refine Sat.ldN 0 h rfl _ rfl rfl ?_ | refine Sat.ldN 1 h rfl _ rfl rfl ?_ | refine Sat.ldN 2 h rfl _ rfl rfl ?_ | refine Sat.ldN 3 h rfl _ rfl rfl ?_ | refine Sat.ldN 4 h rfl _ rfl rfl ?_ | refine Sat.ldN 5 h rfl _ rfl rfl ?_ | refine Sat.ldN 6 h rfl _ rfl rfl ?_ | refine Sat.ldN 7 h rfl _ rfl rfl ?_ | refine Sat.ldN 8 h rfl _ rfl rfl ?_ | refine Sat.ldN 9 h rfl _ rfl rfl ?_); conv => whnf) | ((with_reducible refine Runs.is ?_); (first | refine Sat.store 0 h rfl rfl rfl rfl rfl ?_ | refine Sat.store 1 h rfl rfl rfl rfl rfl ?_ | refine Sat.store 2 h rfl rfl rfl rfl rfl ?_ | refine Sat.store 3 h rfl rfl rfl rfl rfl ?_ | refine Sat.store 4 h rfl rfl rfl rfl rfl ?_ | refine Sat.store 5 h rfl rfl rfl rfl rfl ?_ | refine Sat.store 6 h rfl rfl rfl rfl rfl ?_ | refine Sat.store 7 h rfl rfl rfl rfl rfl ?_ | refine Sat.store 8 h rfl rfl rfl rfl rfl ?_ | refine Sat.store 9 h rfl rfl rfl rfl rfl ?_); (conv => whnf); intro w h; (conv => whnf)))
  refine sel_false (by simp) ?_
  conv => whnf
  repeat (first | ((with_reducible refine CW.is ?_); (first | refine CW.run rfl ?_ | refine CW.go ?_); conv => whnf) | ((with_reducible refine Chk.is ?_); refine Chk.mk (by first | decide | (exact ⟨by omega, by omega⟩)) ?_; conv => whnf) | ((with_reducible refine New.is ?_); refine Sat.newK h fun b w h => ?_; conv => whnf) | ((with_reducible refine Ld.is ?_); (first | refine Sat.ld 0 h rfl rfl ?_ | refine Sat.ld 1 h rfl rfl ?_ | refine Sat.ld 2 h rfl rfl ?_ | refine Sat.ld 3 h rfl rfl ?_ | refine Sat.ld 4 h rfl rfl ?_ | refine Sat.ld 5 h rfl rfl ?_ | refine Sat.ld 6 h rfl rfl ?_ | refine Sat.ld 7 h rfl rfl ?_ | refine Sat.ld 8 h rfl rfl ?_ | refine Sat.ld 9 h rfl rfl ?_); conv => whnf) | ((with_reducible refine LdN.is ?_); (first | refine Sat.ldN 0 h rfl _ rfl rfl ?_ | refine Sat.ldN 1 h rfl _ rfl rfl ?_ | refine Sat.ldN 2 h rfl _ rfl rfl ?_ | refine Sat.ldN 3 h rfl _ rfl rfl ?_ | refine Sat.ldN 4 h rfl _ rfl rfl ?_ | refine Sat.ldN 5 h rfl _ rfl rfl ?_ | refine Sat.ldN 6 h rfl _ rfl rfl ?_ | refine Sat.ldN 7 h rfl _ rfl rfl ?_ | refine Sat.ldN 8 h rfl _ rfl rfl ?_ | refine Sat.ldN 9 h rfl _ rfl rfl ?_); conv => whnf) | ((with_reducible refine Runs.is ?_); (first | refine Sat.store 0 h rfl rfl rfl rfl rfl ?_ | refine Sat.store 1 h rfl rfl rfl rfl rfl ?_ | refine Sat.store 2 h rfl rfl rfl rfl rfl ?_ | refine Sat.store 3 h rfl rfl rfl rfl rfl ?_ | refine Sat.store 4 h rfl rfl rfl rfl rfl ?_ | refine Sat.store 5 h rfl rfl rfl rfl rfl ?_ | refine Sat.store 6 h rfl rfl rfl rfl rfl ?_ | refine Sat.store 7 h rfl rfl rfl rfl rfl ?_ | refine Sat.store 8 h rfl rfl rfl rfl rfl ?_ | refine Sat.store 9 h rfl rfl rfl rfl rfl ?_); (conv => whnf); intro w h; (conv => whnf)))
  refine sel_false (by simp) ?_
  conv => whnf
  repeat (first | ((with_reducible refine CW.is ?_); (first | refine CW.run rfl ?_ | refine CW.go ?_); conv => whnf) | ((with_reducible refine Chk.is ?_); refine Chk.mk (by first | decide | (exact ⟨by omega, by omega⟩)) ?_; conv => whnf) | ((with_reducible refine New.is ?_); refine Sat.newK h fun b w h => ?_; conv => whnf) | ((with_reducible refine Ld.is ?_); (first | refine Sat.ld 0 h rfl rfl ?_ | refine Sat.ld 1 h rfl rfl ?_ | refine Sat.ld 2 h rfl rfl ?_ | refine Sat.ld 3 h rfl rfl ?_ | refine Sat.ld 4 h rfl rfl ?_ | refine Sat.ld 5 h rfl rfl ?_ | refine Sat.ld 6 h rfl rfl ?_ | refine Sat.ld 7 h rfl rfl ?_ | refine Sat.ld 8 h rfl rfl ?_ | refine Sat.ld 9 h rfl rfl ?_); conv => whnf) | ((with_reducible refine LdN.is ?_); (first | refine Sat.ldN 0 h rfl _ rfl rfl ?_ | refine Sat.ldN 1 h rfl _ rfl rfl ?_ | refine Sat.ldN 2 h rfl _ rfl rfl ?_ | refine Sat.ldN 3 h rfl _ rfl rfl ?_ | refine Sat.ldN 4 h rfl _ rfl rfl ?_ | refine Sat.ldN 5 h rfl _ rfl rfl ?_ | refine Sat.ldN 6 h rfl _ rfl rfl ?_ | refine Sat.ldN 7 h rfl _ rfl rfl ?_ | refine Sat.ldN 8 h rfl _ rfl rfl ?_ | refine Sat.ldN 9 h rfl _ rfl rfl ?_); conv => whnf) | ((with_reducible refine Runs.is ?_); (first | refine Sat.store 0 h rfl rfl rfl rfl rfl ?_ | refine Sat.store 1 h rfl rfl rfl rfl rfl ?_ | refine Sat.store 2 h rfl rfl rfl rfl rfl ?_ | refine Sat.store 3 h rfl rfl rfl rfl rfl ?_ | refine Sat.store 4 h rfl rfl rfl rfl rfl ?_ | refine Sat.store 5 h rfl rfl rfl rfl rfl ?_ | refine Sat.store 6 h rfl rfl rfl rfl rfl ?_ | refine Sat.store 7 h rfl rfl rfl rfl rfl ?_ | refine Sat.store 8 h rfl rfl rfl rfl rfl ?_ | refine Sat.store 9 h rfl rfl rfl rfl rfl ?_); (conv => whnf); intro w h; (conv => whnf)))
  refine CallF.val (same_any (by omega) β w _ h (h.rds 0 rfl) (h.rds 7 rfl)) (Try.call24 _ _) fun w h => ?_
  conv => whnf
  repeat (first | ((with_reducible refine CW.is ?_); (first | refine CW.run rfl ?_ | refine CW.go ?_); conv => whnf) | ((with_reducible refine Chk.is ?_); refine Chk.mk (by first | decide | (exact ⟨by omega, by omega⟩)) ?_; conv => whnf) | ((with_reducible refine New.is ?_); refine Sat.newK h fun b w h => ?_; conv => whnf) | ((with_reducible refine Ld.is ?_); (first | refine Sat.ld 0 h rfl rfl ?_ | refine Sat.ld 1 h rfl rfl ?_ | refine Sat.ld 2 h rfl rfl ?_ | refine Sat.ld 3 h rfl rfl ?_ | refine Sat.ld 4 h rfl rfl ?_ | refine Sat.ld 5 h rfl rfl ?_ | refine Sat.ld 6 h rfl rfl ?_ | refine Sat.ld 7 h rfl rfl ?_ | refine Sat.ld 8 h rfl rfl ?_ | refine Sat.ld 9 h rfl rfl ?_); conv => whnf) | ((with_reducible refine LdN.is ?_); (first | refine Sat.ldN 0 h rfl _ rfl rfl ?_ | refine Sat.ldN 1 h rfl _ rfl rfl ?_ | refine Sat.ldN 2 h rfl _ rfl rfl ?_ | refine Sat.ldN 3 h rfl _ rfl rfl ?_ | refine Sat.ldN 4 h rfl _ rfl rfl ?_ | refine Sat.ldN 5 h rfl _ rfl rfl ?_ | refine Sat.ldN 6 h rfl _ rfl rfl ?_ | refine Sat.ldN 7 h rfl _ rfl rfl ?_ | refine Sat.ldN 8 h rfl _ rfl rfl ?_ | refine Sat.ldN 9 h rfl _ rfl rfl ?_); conv => whnf) | ((with_reducible refine Runs.is ?_); (first | refine Sat.store 0 h rfl rfl rfl rfl rfl ?_ | refine Sat.store 1 h rfl rfl rfl rfl rfl ?_ | refine Sat.store 2 h rfl rfl rfl rfl rfl ?_ | refine Sat.store 3 h rfl rfl rfl rfl rfl ?_ | refine Sat.store 4 h rfl rfl rfl rfl rfl ?_ | refine Sat.store 5 h rfl rfl rfl rfl rfl ?_ | refine Sat.store 6 h rfl rfl rfl rfl rfl ?_ | refine Sat.store 7 h rfl rfl rfl rfl rfl ?_ | refine Sat.store 8 h rfl rfl rfl rfl rfl ?_ | refine Sat.store 9 h rfl rfl rfl rfl rfl ?_); (conv => whnf); intro w h; (conv => whnf)))
  refine sel_false (by simp) ?_
  conv => whnf
  repeat (first | ((with_reducible refine CW.is ?_); (first | refine CW.run rfl ?_ | refine CW.go ?_); conv => whnf) | ((with_reducible refine Chk.is ?_); refine Chk.mk (by first | decide | (exact ⟨by omega, by omega⟩)) ?_; conv => whnf) | ((with_reducible refine New.is ?_); refine Sat.newK h fun b w h => ?_; conv => whnf) | ((with_reducible refine Ld.is ?_); (first | refine Sat.ld 0 h rfl rfl ?_ | refine Sat.ld 1 h rfl rfl ?_ | refine Sat.ld 2 h rfl rfl ?_ | refine Sat.ld 3 h rfl rfl ?_ | refine Sat.ld 4 h rfl rfl ?_ | refine Sat.ld 5 h rfl rfl ?_ | refine Sat.ld 6 h rfl rfl ?_ | refine Sat.ld 7 h rfl rfl ?_ | refine Sat.ld 8 h rfl rfl ?_ | refine Sat.ld 9 h rfl rfl ?_); conv => whnf) | ((with_reducible refine LdN.is ?_); (first | refine Sat.ldN 0 h rfl _ rfl rfl ?_ | refine Sat.ldN 1 h rfl _ rfl rfl ?_ | refine Sat.ldN 2 h rfl _ rfl rfl ?_ | refine Sat.ldN 3 h rfl _ rfl rfl ?_ | refine Sat.ldN 4 h rfl _ rfl rfl ?_ | refine Sat.ldN 5 h rfl _ rfl rfl ?_ | refine Sat.ldN 6 h rfl _ rfl rfl ?_ | refine Sat.ldN 7 h rfl _ rfl rfl ?_ | refine Sat.ldN 8 h rfl _ rfl rfl ?_ | refine Sat.ldN 9 h rfl _ rfl rfl ?_); conv => whnf) | ((with_reducible refine Runs.is ?_); (first | refine Sat.store 0 h rfl rfl rfl rfl rfl ?_ | refine Sat.store 1 h rfl rfl rfl rfl rfl ?_ | refine Sat.store 2 h rfl rfl rfl rfl rfl ?_ | refine Sat.store 3 h rfl rfl rfl rfl rfl ?_ | refine Sat.store 4 h rfl rfl rfl rfl rfl ?_ | refine Sat.store 5 h rfl rfl rfl rfl rfl ?_ | refine Sat.store 6 h rfl rfl rfl rfl rfl ?_ | refine Sat.store 7 h rfl rfl rfl rfl rfl ?_ | refine Sat.store 8 h rfl rfl rfl rfl rfl ?_ | refine Sat.store 9 h rfl rfl rfl rfl rfl ?_); (conv => whnf); intro w h; (conv => whnf)))
  refine Sat.bringK [1] h ?_
  conv => whnf
  clear h; intro h
  refine CallF.val (size_any (b := p) (l := wL) β w _ h) (Try.call31 _ _) fun w h => ?_
  conv => whnf
  repeat (first | ((with_reducible refine CW.is ?_); (first | refine CW.run rfl ?_ | refine CW.go ?_); conv => whnf) | ((with_reducible refine Chk.is ?_); refine Chk.mk (by first | decide | (exact ⟨by omega, by omega⟩)) ?_; conv => whnf) | ((with_reducible refine New.is ?_); refine Sat.newK h fun b w h => ?_; conv => whnf) | ((with_reducible refine Ld.is ?_); (first | refine Sat.ld 0 h rfl rfl ?_ | refine Sat.ld 1 h rfl rfl ?_ | refine Sat.ld 2 h rfl rfl ?_ | refine Sat.ld 3 h rfl rfl ?_ | refine Sat.ld 4 h rfl rfl ?_ | refine Sat.ld 5 h rfl rfl ?_ | refine Sat.ld 6 h rfl rfl ?_ | refine Sat.ld 7 h rfl rfl ?_ | refine Sat.ld 8 h rfl rfl ?_ | refine Sat.ld 9 h rfl rfl ?_); conv => whnf) | ((with_reducible refine LdN.is ?_); (first | refine Sat.ldN 0 h rfl _ rfl rfl ?_ | refine Sat.ldN 1 h rfl _ rfl rfl ?_ | refine Sat.ldN 2 h rfl _ rfl rfl ?_ | refine Sat.ldN 3 h rfl _ rfl rfl ?_ | refine Sat.ldN 4 h rfl _ rfl rfl ?_ | refine Sat.ldN 5 h rfl _ rfl rfl ?_ | refine Sat.ldN 6 h rfl _ rfl rfl ?_ | refine Sat.ldN 7 h rfl _ rfl rfl ?_ | refine Sat.ldN 8 h rfl _ rfl rfl ?_ | refine Sat.ldN 9 h rfl _ rfl rfl ?_); conv => whnf) | ((with_reducible refine Runs.is ?_); (first | refine Sat.store 0 h rfl rfl rfl rfl rfl ?_ | refine Sat.store 1 h rfl rfl rfl rfl rfl ?_ | refine Sat.store 2 h rfl rfl rfl rfl rfl ?_ | refine Sat.store 3 h rfl rfl rfl rfl rfl ?_ | refine Sat.store 4 h rfl rfl rfl rfl rfl ?_ | refine Sat.store 5 h rfl rfl rfl rfl rfl ?_ | refine Sat.store 6 h rfl rfl rfl rfl rfl ?_ | refine Sat.store 7 h rfl rfl rfl rfl rfl ?_ | refine Sat.store 8 h rfl rfl rfl rfl rfl ?_ | refine Sat.store 9 h rfl rfl rfl rfl rfl ?_); (conv => whnf); intro w h; (conv => whnf)))
  refine sel_false (by simp; omega) ?_
  conv => whnf
  repeat (first | ((with_reducible refine CW.is ?_); (first | refine CW.run rfl ?_ | refine CW.go ?_); conv => whnf) | ((with_reducible refine Chk.is ?_); refine Chk.mk (by first | decide | (exact ⟨by omega, by omega⟩)) ?_; conv => whnf) | ((with_reducible refine New.is ?_); refine Sat.newK h fun b w h => ?_; conv => whnf) | ((with_reducible refine Ld.is ?_); (first | refine Sat.ld 0 h rfl rfl ?_ | refine Sat.ld 1 h rfl rfl ?_ | refine Sat.ld 2 h rfl rfl ?_ | refine Sat.ld 3 h rfl rfl ?_ | refine Sat.ld 4 h rfl rfl ?_ | refine Sat.ld 5 h rfl rfl ?_ | refine Sat.ld 6 h rfl rfl ?_ | refine Sat.ld 7 h rfl rfl ?_ | refine Sat.ld 8 h rfl rfl ?_ | refine Sat.ld 9 h rfl rfl ?_); conv => whnf) | ((with_reducible refine LdN.is ?_); (first | refine Sat.ldN 0 h rfl _ rfl rfl ?_ | refine Sat.ldN 1 h rfl _ rfl rfl ?_ | refine Sat.ldN 2 h rfl _ rfl rfl ?_ | refine Sat.ldN 3 h rfl _ rfl rfl ?_ | refine Sat.ldN 4 h rfl _ rfl rfl ?_ | refine Sat.ldN 5 h rfl _ rfl rfl ?_ | refine Sat.ldN 6 h rfl _ rfl rfl ?_ | refine Sat.ldN 7 h rfl _ rfl rfl ?_ | refine Sat.ldN 8 h rfl _ rfl rfl ?_ | refine Sat.ldN 9 h rfl _ rfl rfl ?_); conv => whnf) | ((with_reducible refine Runs.is ?_); (first | refine Sat.store 0 h rfl rfl rfl rfl rfl ?_ | refine Sat.store 1 h rfl rfl rfl rfl rfl ?_ | refine Sat.store 2 h rfl rfl rfl rfl rfl ?_ | refine Sat.store 3 h rfl rfl rfl rfl rfl ?_ | refine Sat.store 4 h rfl rfl rfl rfl rfl ?_ | refine Sat.store 5 h rfl rfl rfl rfl rfl ?_ | refine Sat.store 6 h rfl rfl rfl rfl rfl ?_ | refine Sat.store 7 h rfl rfl rfl rfl rfl ?_ | refine Sat.store 8 h rfl rfl rfl rfl rfl ?_ | refine Sat.store 9 h rfl rfl rfl rfl rfl ?_); (conv => whnf); intro w h; (conv => whnf)))
  refine ⟨_, ?_, k + 1, wL, a'', c'', hlt, rfl, by omega, ?_, h.keep [0, 4, 5, 6, 7]⟩
  · omega
  · rw [wr64 (by omega) (by omega)]; rfl
end Go.Ev
