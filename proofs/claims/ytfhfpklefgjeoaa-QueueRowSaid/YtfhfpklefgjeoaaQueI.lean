/- A row of little room: one step of the list. Conditions: none. -/
import Derived.Test.YtfhfpklefgjeoaaQueH
import Derived.Test.YtfhfpklefgjeoaaQueF
namespace Go.Ev
open Go Go.Proofs
set_option maxRecDepth 10000
set_option maxHeartbeats 1000000

theorem Sat.own_le {α : Type} {β w : World} {As : List Asrt} {T : TypeId} {sz : Nat} {enc : α → List Value} {a : Option Addr} {c : Nat} {l : List α} (h : Sat β w (Own T sz enc a c l :: As)) : l.length ≤ c := by
  rcases h.own_cases with ⟨rfl, rfl, _⟩ | ⟨_, _, _, _, _, _, _, h, _⟩
  · exact Nat.le_refl _
  · exact h
theorem step5_any {n k : Int} {v : Num} {i : Int} (hk : 0 ≤ k) (hi : okI i) {r : List Num} {a : Option Addr} {c : Nat} (hl : r.length ≤ 150) (hc : r.length ≤ c) : ∀ β w F G, Sat β w [F, G] → Rds β [F] 2 encN a r →
    Calls Try.prog 39 #[.slice a r.length c, .int .i64 n, wA5 k v i] w fun e w' => ∃ a' c' F', e = .returned (.tuple #[.slice a' (stepR n r k v i).1.length c', vN (stepR n r k v i).2.1, .int .i64 (stepR n r k v i).2.2]) ∧
      (stepR n r k v i).1.length ≤ c' ∧ Sat β w' [F', G] ∧ Rds β [F'] 2 encN a' (stepR n r k v i).1 := by
  intro β w F G h hr
  refine calls_W (args := [.slice a r.length c, .int .i64 n, wA5 k v i]) Try.func39 rfl rfl rfl ?_
  have hm := tmod6 hk
  have m2 := refRight_any v
  generalize e1 : stepR n r k v i = s
  unfold stepR at e1
  generalize rightN v = rv at m2 e1
  have hrF : ∀ As, Rds β (F :: As) 2 encN a r := fun As => hr.weak fun w h => h.keep [0]
  conv => whnf
  skip
  refine Sat.newK h fun A w h => ?_
  conv => whnf
  skip
  refine Sat.newK h fun X w h => ?_
  conv => whnf
  repeat (first | ((with_reducible refine CW.is ?_); refine CW.run rfl ?_; conv => whnf) | ((with_reducible refine LdN.is ?_); refine Sat.ldN 1 h rfl _ rfl rfl ?_; conv => whnf))
  refine m2.call h (Try.call44 _ _) fun w h => ?_
  conv => whnf
  repeat (first | ((with_reducible refine CW.is ?_); (first | refine CW.run rfl ?_ | refine CW.go ?_); conv => whnf) | ((with_reducible refine Chk.is ?_); refine Chk.mk (by decide) ?_; conv => whnf) | ((with_reducible refine Ld.is ?_); refine Sat.ld 1 h rfl rfl ?_; conv => whnf))
  generalize k.tmod 6 = m at *
  obtain h0 | rfl | rfl | rfl | rfl : (m = 0 ∨ m = 1) ∨ m = 2 ∨ m = 3 ∨ m = 4 ∨ m = 5 := by omega
  · cases rv
    · obtain rfl : s = (r, (0, 0), 1) := by
        rw [if_pos ⟨by omega, rfl⟩] at e1
        exact e1.symm
      rcases h0 with rfl | rfl
      all_goals
        conv => whnf
        repeat (first | ((with_reducible refine CW.is ?_); refine CW.run rfl ?_; conv => whnf) | ((with_reducible refine LdN.is ?_); refine Sat.ldN 0 h rfl _ rfl rfl ?_; conv => whnf) | ((with_reducible refine Runs.is ?_); refine Sat.store 0 h rfl rfl rfl rfl rfl ?_; (conv => whnf); intro w h; (conv => whnf)))
        exact ⟨a, c, F, rfl, hc, h.keep [2, 3], hr⟩
    rw [if_neg (by simp)] at e1
    by_cases hf : (r.length : Int) = n
    · obtain rfl : s = (r, (0, 0), 31) := by
        rw [if_pos ⟨by omega, hf⟩] at e1
        exact e1.symm
      rcases h0 with rfl | rfl
      all_goals
        conv => whnf
        repeat (first | ((with_reducible refine CW.is ?_); refine CW.run rfl ?_; conv => whnf))
        rw [show decide ((r.length : Int) = n) = true from decide_eq_true hf]
        conv => whnf
        repeat (first | ((with_reducible refine CW.is ?_); refine CW.run rfl ?_; conv => whnf) | ((with_reducible refine LdN.is ?_); refine Sat.ldN 0 h rfl _ rfl rfl ?_; conv => whnf) | ((with_reducible refine Runs.is ?_); refine Sat.store 0 h rfl rfl rfl rfl rfl ?_; (conv => whnf); intro w h; (conv => whnf)))
        exact ⟨a, c, F, rfl, hc, h.keep [2, 3], hr⟩
    rw [if_neg (fun hh => hf hh.2)] at e1
    rcases h0 with rfl | rfl
    · rw [if_pos rfl] at e1
      subst e1
      conv => whnf
      repeat (first | ((with_reducible refine CW.is ?_); refine CW.run rfl ?_; conv => whnf))
      rw [show decide ((r.length : Int) = n) = false from decide_eq_false hf]
      conv => whnf
      repeat (first | ((with_reducible refine CW.is ?_); refine CW.run rfl ?_; conv => whnf))
      refine CW.drawT (id := 8) [2, 0, 2, 0, 1, 2, 2, 0, 0, 2, 0] (.op 1 (.op 3 (.op 4 (.op 7 (.fork (.op 0 (.fork (.op 2 (.op 5 (.op 6 (.op 8 (.op 9 (.op 10 .nil)))))) (.op 5 (.op 2 (.op 6 (.op 8 (.op 9 (.op 10 .nil)))))))) (.op 5 (.op 0 (.op 2 (.op 6 (.op 8 (.op 9 (.op 10 .nil)))))))))))) rfl (by kernel_rfl) (fun u => Sat β u [row A 61 [.int .u8 k, .int .i64 v.1, .int .i64 v.2, .int .i64 i], F]) (fun w e1 e2 e3 e4 => ⟨(h.draw e1 e2 e3 e4).keep [1, 2], ?_⟩)
      replace h := h.draw e1 e2 e3 e4
      clear e1 e2 e3 e4
      conv => whnf
      repeat (first | ((with_reducible refine LdGN.is ?_); refine Sat.ldGN 0 rfl _ rfl rfl ?_; conv => whnf))
      refine ⟨?_, ?_⟩
      · conv => whnf
        skip
        refine Sat.newK h fun B w h => ?_
        conv => whnf
        skip
        refine ⟨h.keep [2, 3], ?_⟩
        conv => whnf
        repeat (refine Wr.any ?_; conv => whnf)
        refine ⟨?_, ?_⟩
        · conv => whnf
          repeat (refine Wr.any ?_; conv => whnf)
          replace h := h.own_of (sz := 2) (enc := encN) [] rfl (fun _ _ => rfl)
          refine Sat.append (l := []) (xs := r) (sz := 2) (enc := encN) h rfl rfl rfl (by decide) rfl rfl rfl (hr.weak fun w h => h.keep [3]) (fun _ => rfl) (fun _ => rfl) (by show _ * 16 ≤ _; simp; omega) fun a' c' w h => ⟨h.keep [2, 3], ?_⟩
          conv => whnf
          repeat (refine Wr.any ?_; conv => whnf)
          refine h.newK fun Y w h => ⟨h.keep [3, 4], ?_⟩
          conv => whnf
          repeat (refine Wr.any ?_; conv => whnf)
          simp only [List.length_nil, Nat.zero_add]
          refine Sat.append1 (l := [] ++ r) (n := r.length) (sz := 2) (enc := encN) v (h.bring [0, 1, 2, 3, 4, 5]) rfl (by simp) rfl rfl rfl (by decide) rfl rfl rfl (fun _ => rfl) (fun _ => rfl) (by show _ * 16 ≤ _; omega) fun a' c' w h => ⟨h.keep [2, 3], ?_⟩
          replace h : Sat β w [Own 33 2 encN a' c' (r ++ [v]), row X 33 [.int .i64 0, .int .i64 0], row A 61 [.int .u8 k, .int .i64 v.1, .int .i64 v.2, .int .i64 i], F, G] := h
          conv => whnf
          repeat (first | ((with_reducible refine Runs.is ?_); refine Sat.store 1 h rfl rfl rfl rfl rfl ?_; (conv => whnf); intro w h; (conv => whnf)))
          refine ⟨h.keep [2, 3], ?_⟩
          conv => whnf
          repeat (first | ((with_reducible refine CW.is ?_); refine CW.run rfl ?_; conv => whnf) | ((with_reducible refine LdN.is ?_); refine Sat.ldN 1 h rfl _ rfl rfl ?_; conv => whnf))
          have := h.own_le
          exact ⟨a', c', Own 33 2 encN a' c' (r ++ [v]), by simp; rfl, this, h.keep [0, 4], Own.rds 0 rfl ⟨_, h.keep [0]⟩⟩
        · conv => whnf
          repeat (refine Wr.any ?_; conv => whnf)
          refine h.newK fun Y w h => ⟨h.keep [3, 4], ?_⟩
          conv => whnf
          repeat (refine Wr.any ?_; conv => whnf)
          replace h := (h.front 1 rfl).own_of (sz := 2) (enc := encN) [] rfl (fun _ _ => rfl)
          refine Sat.append (l := []) (xs := r) (sz := 2) (enc := encN) h rfl rfl rfl (by decide) rfl rfl rfl (hr.weak fun w h => h.keep [4]) (fun _ => rfl) (fun _ => rfl) (by show _ * 16 ≤ _; simp; omega) fun a' c' w h => ⟨h.keep [3, 4], ?_⟩
          conv => whnf
          repeat (refine Wr.any ?_; conv => whnf)
          simp only [List.length_nil, Nat.zero_add]
          refine Sat.append1 (l := [] ++ r) (n := r.length) (sz := 2) (enc := encN) v (h.bring [1, 0, 2, 3, 4, 5]) rfl (by simp) rfl rfl rfl (by decide) rfl rfl rfl (fun _ => rfl) (fun _ => rfl) (by show _ * 16 ≤ _; omega) fun a' c' w h => ⟨h.keep [2, 3], ?_⟩
          replace h : Sat β w [Own 33 2 encN a' c' (r ++ [v]), row X 33 [.int .i64 0, .int .i64 0], row A 61 [.int .u8 k, .int .i64 v.1, .int .i64 v.2, .int .i64 i], F, G] := h
          conv => whnf
          repeat (first | ((with_reducible refine Runs.is ?_); refine Sat.store 1 h rfl rfl rfl rfl rfl ?_; (conv => whnf); intro w h; (conv => whnf)))
          refine ⟨h.keep [2, 3], ?_⟩
          conv => whnf
          repeat (first | ((with_reducible refine CW.is ?_); refine CW.run rfl ?_; conv => whnf) | ((with_reducible refine LdN.is ?_); refine Sat.ldN 1 h rfl _ rfl rfl ?_; conv => whnf))
          have := h.own_le
          exact ⟨a', c', Own 33 2 encN a' c' (r ++ [v]), by simp; rfl, this, h.keep [0, 4], Own.rds 0 rfl ⟨_, h.keep [0]⟩⟩
      · conv => whnf
        skip
        refine Sat.newK h fun B w h => ?_
        conv => whnf
        skip
        refine ⟨h.keep [2, 3], ?_⟩
        conv => whnf
        skip
        refine Sat.newK h fun Y w h => ?_
        conv => whnf
        skip
        refine ⟨h.keep [3, 4], ?_⟩
        conv => whnf
        repeat (refine Wr.any ?_; conv => whnf)
        replace h := h.own_of (sz := 2) (enc := encN) [] rfl (fun _ _ => rfl)
        refine Sat.append (l := []) (xs := r) (sz := 2) (enc := encN) h rfl rfl rfl (by decide) rfl rfl rfl (hr.weak fun w h => h.keep [4]) (fun _ => rfl) (fun _ => rfl) (by show _ * 16 ≤ _; simp; omega) fun a' c' w h => ⟨h.keep [3, 4], ?_⟩
        conv => whnf
        repeat (refine Wr.any ?_; conv => whnf)
        simp only [List.length_nil, Nat.zero_add]
        refine Sat.append1 (l := [] ++ r) (n := r.length) (sz := 2) (enc := encN) v (h.bring [1, 0, 2, 3, 4, 5]) rfl (by simp) rfl rfl rfl (by decide) rfl rfl rfl (fun _ => rfl) (fun _ => rfl) (by show _ * 16 ≤ _; omega) fun a' c' w h => ⟨h.keep [2, 3], ?_⟩
        replace h : Sat β w [Own 33 2 encN a' c' (r ++ [v]), row X 33 [.int .i64 0, .int .i64 0], row A 61 [.int .u8 k, .int .i64 v.1, .int .i64 v.2, .int .i64 i], F, G] := h
        conv => whnf
        repeat (first | ((with_reducible refine Runs.is ?_); refine Sat.store 1 h rfl rfl rfl rfl rfl ?_; (conv => whnf); intro w h; (conv => whnf)))
        refine ⟨h.keep [2, 3], ?_⟩
        conv => whnf
        repeat (first | ((with_reducible refine CW.is ?_); refine CW.run rfl ?_; conv => whnf) | ((with_reducible refine LdN.is ?_); refine Sat.ldN 1 h rfl _ rfl rfl ?_; conv => whnf))
        have := h.own_le
        exact ⟨a', c', Own 33 2 encN a' c' (r ++ [v]), by simp; rfl, this, h.keep [0, 4], Own.rds 0 rfl ⟨_, h.keep [0]⟩⟩
    · rw [if_neg (by decide), if_pos rfl] at e1
      subst e1
      conv => whnf
      repeat (first | ((with_reducible refine CW.is ?_); refine CW.run rfl ?_; conv => whnf))
      rw [show decide ((r.length : Int) = n) = false from decide_eq_false hf]
      conv => whnf
      repeat (first | ((with_reducible refine CW.is ?_); refine CW.run rfl ?_; conv => whnf) | ((with_reducible refine New.is ?_); refine Sat.newK h fun b w h => ?_; conv => whnf) | ((with_reducible refine LdN.is ?_); refine Sat.ldN 1 h rfl _ rfl rfl ?_; conv => whnf))
      replace h := h.own_of (sz := 2) (enc := encN) [v] rfl (fun _ _ => rfl)
      refine Sat.append (l := [v]) (xs := r) (sz := 2) (enc := encN) h rfl rfl rfl (by decide) rfl rfl rfl (hr.weak fun w h => h.keep [3]) (fun _ => rfl) (fun _ => rfl) (by show _ * 16 ≤ _; simp; omega) fun a' c' w h => ?_
      conv => whnf
      repeat (first | ((with_reducible refine CW.is ?_); refine CW.run rfl ?_; conv => whnf) | ((with_reducible refine LdN.is ?_); refine Sat.ldN 1 h rfl _ rfl rfl ?_; conv => whnf) | ((with_reducible refine Runs.is ?_); refine Sat.store 1 h rfl rfl rfl rfl rfl ?_; (conv => whnf); intro w h; (conv => whnf)))
      have := h.own_le
      exact ⟨a', c', Own 33 2 encN a' c' ([v] ++ r), by simp [Nat.add_comm]; rfl, by simpa [Nat.add_comm] using this, h.keep [0, 4], Own.rds 0 rfl ⟨_, h.keep [0]⟩⟩
  · rw [if_neg (by simp), if_neg (by simp), if_neg (by decide), if_neg (by decide), if_neg (by decide)] at e1
    by_cases hz : r.length = 0
    · rw [if_pos (.inr ⟨by decide, hz⟩)] at e1
      subst e1
      conv => whnf
      repeat (first | ((with_reducible refine CW.is ?_); (first | refine CW.run rfl ?_ | refine CW.go ?_); conv => whnf))
      rw [show decide ((r.length : Int) = 0) = true from decide_eq_true (by omega)]
      conv => whnf
      repeat (first | ((with_reducible refine CW.is ?_); refine CW.run rfl ?_; conv => whnf) | ((with_reducible refine LdN.is ?_); refine Sat.ldN 0 h rfl _ rfl rfl ?_; conv => whnf) | ((with_reducible refine Runs.is ?_); refine Sat.store 0 h rfl rfl rfl rfl rfl ?_; (conv => whnf); intro w h; (conv => whnf)))
      exact ⟨a, c, F, rfl, hc, h.keep [2, 3], hr⟩
    rw [if_neg (by simp [hz]), if_neg (by decide), if_pos rfl] at e1
    subst e1
    conv => whnf
    repeat (first | ((with_reducible refine CW.is ?_); (first | refine CW.run rfl ?_ | refine CW.go ?_); conv => whnf))
    rw [show decide ((r.length : Int) = 0) = false from decide_eq_false (by omega)]
    conv => whnf
    repeat (first | ((with_reducible refine CW.is ?_); refine CW.run rfl ?_; conv => whnf))
    refine CW.draw (id := 19) [(0, 0), (2, 0), (3, 0), (4, 1), (1, 2), (5, 0), (6, 3), (7, 0)] rfl (by kernel_rfl) (fun u => Sat β u [F]) (fun w e1 e2 e3 e4 => ⟨(h.draw e1 e2 e3 e4).keep [2], ?_⟩)
    replace h := h.draw e1 e2 e3 e4
    clear e1 e2 e3 e4
    conv => whnf
    repeat (refine Wr.any ?_; conv => whnf)
    refine Chk.mk ⟨by omega, by omega, (hrF []).okLt (i := 0) (by omega)⟩ ?_
    conv => whnf
    repeat (refine Wr.any ?_; conv => whnf)
    refine (hrF []).ldGN (i := 0) (gN_get (n := 0) (by omega) (by omega)) rfl (by simp) ?_
    conv => whnf
    repeat (refine Wr.any ?_; conv => whnf)
    refine (hrF []).sliceFrom (k := 1) rfl rfl rfl hc rfl (by omega) fun a2 hr2 => ⟨h.keep [2], ?_⟩
    conv => whnf
    repeat (first | ((with_reducible refine CW.is ?_); refine CW.run rfl ?_; conv => whnf) | ((with_reducible refine LdN.is ?_); refine Sat.ldN 0 h rfl _ rfl rfl ?_; conv => whnf) | ((with_reducible refine Runs.is ?_); refine Sat.store 0 h rfl rfl rfl rfl rfl ?_; (conv => whnf); intro w h; (conv => whnf)))
    exact ⟨a2, c - 1, F, rfl, by simp; omega, h.keep [2, 3], hr2⟩
  · rw [if_neg (by simp), if_neg (by simp), if_neg (by decide), if_neg (by decide), if_neg (by decide)] at e1
    by_cases hz : r.length = 0
    · rw [if_pos (.inr ⟨by decide, hz⟩)] at e1
      subst e1
      conv => whnf
      repeat (first | ((with_reducible refine CW.is ?_); (first | refine CW.run rfl ?_ | refine CW.go ?_); conv => whnf))
      rw [show decide ((r.length : Int) = 0) = true from decide_eq_true (by omega)]
      conv => whnf
      repeat (first | ((with_reducible refine CW.is ?_); refine CW.run rfl ?_; conv => whnf) | ((with_reducible refine LdN.is ?_); refine Sat.ldN 0 h rfl _ rfl rfl ?_; conv => whnf) | ((with_reducible refine Runs.is ?_); refine Sat.store 0 h rfl rfl rfl rfl rfl ?_; (conv => whnf); intro w h; (conv => whnf)))
      exact ⟨a, c, F, rfl, hc, h.keep [2, 3], hr⟩
    rw [if_neg (by simp [hz]), if_neg (by decide), if_neg (by decide)] at e1
    subst e1
    conv => whnf
    repeat (first | ((with_reducible refine CW.is ?_); (first | refine CW.run rfl ?_ | refine CW.go ?_); conv => whnf))
    rw [show decide ((r.length : Int) = 0) = false from decide_eq_false (by omega)]
    conv => whnf
    repeat (first | ((with_reducible refine CW.is ?_); refine CW.run rfl ?_; conv => whnf))
    refine CW.draw (id := 20) [(0, 0), (1, 0), (2, 0), (3, 0), (5, 0), (6, 0), (7, 0), (8, 0), (9, 0), (10, 1), (4, 2), (11, 0), (12, 3), (13, 0)] rfl (by kernel_rfl) (fun u => Sat β u [F]) (fun w e1 e2 e3 e4 => ⟨(h.draw e1 e2 e3 e4).keep [2], ?_⟩)
    replace h := h.draw e1 e2 e3 e4
    clear e1 e2 e3 e4
    conv => whnf
    repeat (refine Wr.any ?_; conv => whnf)
    rw [wr64 (by omega) (by omega)]
    refine Chk.mk ⟨by omega, by omega, (hrF []).okLt (i := r.length - 1) (by omega)⟩ ?_
    conv => whnf
    repeat (refine Wr.any ?_; conv => whnf)
    refine (hrF []).ldGN (i := ((r.length : Int) - 1).toNat) (gN_get (n := (r.length : Int) - 1) (by omega) (by omega)) rfl rfl ?_
    conv => whnf
    repeat (refine Wr.any ?_; conv => whnf)
    refine (hrF []).sliceTo (k := r.length - 1) rfl rfl hc (by omega) (by omega) fun hr2 => ⟨h.keep [2], ?_⟩
    conv => whnf
    repeat (first | ((with_reducible refine CW.is ?_); refine CW.run rfl ?_; conv => whnf) | ((with_reducible refine LdN.is ?_); refine Sat.ldN 0 h rfl _ rfl rfl ?_; conv => whnf) | ((with_reducible refine Runs.is ?_); refine Sat.store 0 h rfl rfl rfl rfl rfl ?_; (conv => whnf); intro w h; (conv => whnf)))
    exact ⟨a, c, F, by rw [List.length_take_of_le (by omega)]; rfl, by simp; omega, h.keep [2, 3], hr2⟩
  · rw [if_neg (by simp), if_neg (by simp), if_neg (by decide), if_neg (by decide), if_pos rfl] at e1
    subst e1
    conv => whnf
    repeat (first | ((with_reducible refine CW.is ?_); refine CW.run rfl ?_; conv => whnf) | ((with_reducible refine LdN.is ?_); refine Sat.ldN 0 h rfl _ rfl rfl ?_; conv => whnf) | ((with_reducible refine Runs.is ?_); refine Sat.store 0 h rfl rfl rfl rfl rfl ?_; (conv => whnf); intro w h; (conv => whnf)))
    exact ⟨a, c, F, rfl, hc, h.keep [2, 3], hr⟩
  · rw [if_neg (by simp), if_neg (by simp), if_neg (by decide), if_neg (by decide), if_neg (by decide)] at e1
    by_cases hz : i < 0 ∨ (r.length : Int) ≤ i
    · rw [if_pos (.inl ⟨rfl, hz⟩)] at e1
      subst e1
      conv => whnf
      repeat (first | ((with_reducible refine CW.is ?_); (first | refine CW.run rfl ?_ | refine CW.go ?_); conv => whnf) | ((with_reducible refine Ld.is ?_); refine Sat.ld 1 h rfl rfl ?_; conv => whnf))
      by_cases h1 : i < 0
      · rw [show decide (i < 0) = true from decide_eq_true h1]
        conv => whnf
        repeat (first | ((with_reducible refine CW.is ?_); refine CW.run rfl ?_; conv => whnf) | ((with_reducible refine LdN.is ?_); refine Sat.ldN 0 h rfl _ rfl rfl ?_; conv => whnf) | ((with_reducible refine Runs.is ?_); refine Sat.store 0 h rfl rfl rfl rfl rfl ?_; (conv => whnf); intro w h; (conv => whnf)))
        exact ⟨a, c, F, rfl, hc, h.keep [2, 3], hr⟩
      · rw [show decide (i < 0) = false from decide_eq_false h1]
        conv => whnf
        repeat (first | ((with_reducible refine CW.is ?_); refine CW.run rfl ?_; conv => whnf) | ((with_reducible refine Ld.is ?_); refine Sat.ld 1 h rfl rfl ?_; conv => whnf))
        rw [show decide ((r.length : Int) ≤ i) = true from decide_eq_true (by omega)]
        conv => whnf
        repeat (first | ((with_reducible refine CW.is ?_); refine CW.run rfl ?_; conv => whnf) | ((with_reducible refine LdN.is ?_); refine Sat.ldN 0 h rfl _ rfl rfl ?_; conv => whnf) | ((with_reducible refine Runs.is ?_); refine Sat.store 0 h rfl rfl rfl rfl rfl ?_; (conv => whnf); intro w h; (conv => whnf)))
        exact ⟨a, c, F, rfl, hc, h.keep [2, 3], hr⟩
    rw [if_neg (fun hh => hh.elim (fun hh => hz hh.2) (fun hh => absurd hh.1 (by decide))), if_pos rfl] at e1
    subst e1
    conv => whnf
    repeat (first | ((with_reducible refine CW.is ?_); (first | refine CW.run rfl ?_ | refine CW.go ?_); conv => whnf) | ((with_reducible refine Ld.is ?_); refine Sat.ld 1 h rfl rfl ?_; conv => whnf))
    rw [show decide (i < 0) = false from decide_eq_false (by omega)]
    conv => whnf
    repeat (first | ((with_reducible refine CW.is ?_); refine CW.run rfl ?_; conv => whnf) | ((with_reducible refine Ld.is ?_); refine Sat.ld 1 h rfl rfl ?_; conv => whnf))
    rw [show decide ((r.length : Int) ≤ i) = false from decide_eq_false (by omega)]
    conv => whnf
    repeat (first | ((with_reducible refine CW.is ?_); refine CW.run rfl ?_; conv => whnf))
    refine CW.draw (id := 17) [(0, 0), (1, 0), (2, 0), (3, 4), (4, 0), (5, 4), (6, 0), (7, 3), (8, 0)] rfl (by kernel_rfl) (fun u => Sat β u [row A 61 [.int .u8 k, .int .i64 v.1, .int .i64 v.2, .int .i64 i], F]) (fun w e1 e2 e3 e4 => ⟨(h.draw e1 e2 e3 e4).keep [1, 2], ?_⟩)
    replace h := h.draw e1 e2 e3 e4
    clear e1 e2 e3 e4
    conv => whnf
    repeat (first | ((with_reducible refine Ld.is ?_); refine Sat.ld 1 h rfl rfl ?_; conv => whnf))
    refine Chk.mk ⟨by omega, by omega, (hrF []).okLt (i := i.toNat) (by omega)⟩ ?_
    conv => whnf
    repeat (refine Wr.any ?_; conv => whnf)
    refine (hrF [G]).cons.cons.ldN (i := i.toNat) h (gN_get (by omega) (by omega)) rfl rfl ?_
    conv => whnf
    repeat (first | ((with_reducible refine CW.is ?_); refine CW.run rfl ?_; conv => whnf) | ((with_reducible refine LdN.is ?_); refine Sat.ldN 0 h rfl _ rfl rfl ?_; conv => whnf) | ((with_reducible refine Runs.is ?_); refine Sat.store 0 h rfl rfl rfl rfl rfl ?_; (conv => whnf); intro w h; (conv => whnf)))
    exact ⟨a, c, F, rfl, hc, h.keep [2, 3], hr⟩
end Go.Ev
