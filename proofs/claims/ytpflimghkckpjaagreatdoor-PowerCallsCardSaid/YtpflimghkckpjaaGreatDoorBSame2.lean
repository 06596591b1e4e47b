/-
The reference of power, walked: SameLevels at equal values, Default, Check; power.Default.
-/
import Derived.Test.YtpflimghkckpjaaGreatDoorBR06
set_option linter.unusedVariables false
set_option linter.unusedSimpArgs false
namespace Go.Proofs.YtpflimghkckpjaaGreatDoor.B
open Go.RowKit
theorem false_of {m : Bool} {n : Unit → Bool} (h : Is m n) (e : n () = false) : m = false := h.out.trans e
set_option maxRecDepth 100000 in
set_option maxHeartbeats 4000000 in
theorem same_ac {G : World → Prop} (hst : Stable G) (X Y : List (List PV)) (l0 l1 : List (ByteArray × Int)) (hX : l0.map encE = X) (hY : l1.map encE = Y) (hl0 : l0.length ≤ 1000000) (hl1 : l1.length ≤ 1000000) (a2 a3 a4 a5 a6 a7 a8 : Int) :
    ACalls G Tryz.prog 13 [encLv X Y a2 a3 a4 a5 a6 a7 a8, encLv X Y a2 a3 a4 a5 a6 a7 a8] (.lit (.bool true)) none := by
  obtain ⟨M, hM⟩ : ∃ M, [a2, a3, a4, a5, a6, a7, a8].map encI = M := ⟨_, rfl⟩
  have hcall := rNumbers_ac hst X Y a2 a3 a4 a5 a6 a7 a8
  replace hcall : ACalls G Tryz.prog 58 [encLv X Y a2 a3 a4 a5 a6 a7 a8] (.sl M) (some (2, 1)) := by rw [← hM]; exact hcall
  have hMl : M.length ≤ 1000000 := by rw [← hM]; simp
  have hXl : X.length ≤ 1000000 := by rw [← hX]; simpa using hl0
  have hYl : Y.length ≤ 1000000 := by rw [← hY]; simpa using hl1
  refine acalls_fn hst mixed tau_ok Tryz.func13 (by kernel_rfl) (by kernel_rfl) (by kernel_rfl) ?_
  intro Q hQ
  cbv
  refine ⟨_, _, hQ _ _ _ _ hcall, ?_⟩
  cbv
  refine ⟨_, _, hQ _ _ _ _ hcall, ?_⟩
  cbv
  refine ⟨[2, 3, 5, 6], [2, 3], Int, fun k => [(.t 7, ⟨.pv (.lit (.int .i64 k)), none, none⟩)], Upto M.length (fun _ => True), fun k => M.length - k.toNat, 0, Upto.zero, ?_, ?_⟩
  · cbv
    simp
  · intro k hk
    cbv
    intro m1 h1
    cbv
    intro c1 h2
    cbv
    have h0 := hk.lo
    cases c1
    · cbv
      intro n1 g1
      cbv
      intro n2 g2
      cbv
      intro q1 g3
      have gx : q1 = false := false_of g3 (by rw [g1.len, g2.len]; simp)
      subst gx
      cbv
      intro n3 g4
      cbv
      intro n4 g5
      cbv
      intro q2 g6
      have gy : q2 = false := false_of g6 (by rw [g4.len, g5.len]; simp)
      subst gy
      cbv
      refine ⟨[2, 3], [2, 3], Int, fun k => [(.t 8, ⟨.pv (.lit (.int .i64 k)), none, none⟩)], Upto X.length (fun _ => True), fun k => X.length - k.toNat, 0, Upto.zero, ?_, ?_⟩
      · cbv
        simp
      · intro k hk
        cbv
        intro m1 h1
        cbv
        intro c1 h2
        cbv
        have h0 := hk.lo
        cases c1
        · cbv
          refine ⟨[2, 3], [2, 3], Int, fun k => [(.t 9, ⟨.pv (.lit (.int .i64 k)), none, none⟩)], Upto Y.length (fun _ => True), fun k => Y.length - k.toNat, 0, Upto.zero, ?_, ?_⟩
          · cbv
            simp
          · intro k hk
            cbv
            intro m1 h1
            cbv
            intro c1 h2
            cbv
            have h0 := hk.lo
            cases c1
            · cbv
              first | done | exact ⟨rfl, trivial⟩
            · have h : k < Y.length := by have := h2.yes; have := h1.len; omega
              cbv
              refine ⟨Is.at h0 h, ?_⟩
              intro r hr
              obtain ⟨⟨u, un⟩, hx, rfl⟩ := hr.row hY
              cbv
              refine ⟨Is.at h0 h, ?_⟩
              intro r2 hr2
              obtain ⟨⟨u2, un2⟩, hx2, rfl⟩ := hr2.row hY
              rw [hx] at hx2
              cases hx2
              cbv
              intro c2 h3
              obtain rfl := false_of h3 (by simp)
              cbv
              intro m9 h9
              have e9 := h9.inc h0 h (by omega)
              cbv
              refine ⟨m9, by rw [e9]; exact hk.next h trivial, by rw [e9]; exact less h0 h, ?_⟩
              cbv
              simp
        · have h : k < X.length := by have := h2.yes; have := h1.len; omega
          cbv
          refine ⟨Is.at h0 h, ?_⟩
          intro r hr
          obtain ⟨⟨u, un⟩, hx, rfl⟩ := hr.row hX
          cbv
          refine ⟨Is.at h0 h, ?_⟩
          intro r2 hr2
          obtain ⟨⟨u2, un2⟩, hx2, rfl⟩ := hr2.row hX
          rw [hx] at hx2
          cases hx2
          cbv
          intro c2 h3
          obtain rfl := false_of h3 (by simp)
          cbv
          intro m9 h9
          have e9 := h9.inc h0 h (by omega)
          cbv
          refine ⟨m9, by rw [e9]; exact hk.next h trivial, by rw [e9]; exact less h0 h, ?_⟩
          cbv
          simp
    · have h : k < M.length := by have := h2.yes; have := h1.len; omega
      cbv
      refine ⟨Is.at h0 h, ?_⟩
      intro r hr
      obtain ⟨n, hx, rfl⟩ := hr.row hM
      cbv
      refine ⟨Is.at h0 h, ?_⟩
      intro r2 hr2
      obtain ⟨n2, hx2, rfl⟩ := hr2.row hM
      rw [hx] at hx2
      cases hx2
      cbv
      intro c2 h3
      obtain rfl := false_of h3 (by simp)
      cbv
      intro m9 h9
      have e9 := h9.inc h0 h (by omega)
      cbv
      refine ⟨m9, by rw [e9]; exact hk.next h trivial, by rw [e9]; exact less h0 h, ?_⟩
      cbv
      simp

set_option maxRecDepth 100000 in
set_option maxHeartbeats 4000000 in
theorem defaultpU_ac {G : World → Prop} (hst : Stable G) (s : ByteArray) (b : Bool) (hU : ACalls G Tryz.prog 59 [.lit (.string s)] (.lit (.bool b)) none) (X : List (List PV)) (hX : (if b = true then [[.lit (.string s), .lit (.int .i64 100)]] else []) = X) :
    ACalls G Tryz.prog 14 [.lit (.string s)] (encLv X [] 0 0 50 50 50 50 0) none := by
  refine acalls_fn hst mixed tau_ok Tryz.func14 (by kernel_rfl) (by kernel_rfl) (by kernel_rfl) ?_
  intro Q hQ
  cbv
  try refine ⟨_, _, hQ _ _ _ _ (rPlain_ac hst), ?_⟩
  try cbv
  refine ⟨_, _, hQ _ _ _ _ hU, ?_⟩
  cbv
  cases b
  · subst hX
    cbv
    try first | exact ⟨rfl, trivial⟩ | exact Or.inr trivial | exact Or.inl rfl
  · subst hX
    cbv
    try first | exact ⟨rfl, trivial⟩ | exact Or.inr trivial | exact Or.inl rfl
set_option maxRecDepth 100000 in
set_option maxHeartbeats 4000000 in
theorem defaultrU_ac {G : World → Prop} (hst : Stable G) (s : ByteArray) (b : Bool) (hU : ACalls G Tryz.prog 61 [.lit (.string s)] (.lit (.bool b)) none) (X : List (List PV)) (hX : (if b = true then [[.lit (.string s), .lit (.int .i64 100)]] else []) = X) :
    ACalls G Tryz.prog 15 [.lit (.string s)] (encLv X [] 0 0 50 50 50 50 0) none := by
  refine acalls_fn hst mixed tau_ok Tryz.func15 (by kernel_rfl) (by kernel_rfl) (by kernel_rfl) ?_
  intro Q hQ
  cbv
  try refine ⟨_, _, hQ _ _ _ _ (rPlain_ac hst), ?_⟩
  try cbv
  refine ⟨_, _, hQ _ _ _ _ hU, ?_⟩
  cbv
  cases b
  · subst hX
    cbv
    try first | exact ⟨rfl, trivial⟩ | exact Or.inr trivial | exact Or.inl rfl
  · subst hX
    cbv
    try first | exact ⟨rfl, trivial⟩ | exact Or.inr trivial | exact Or.inl rfl
set_option maxRecDepth 100000 in
set_option maxHeartbeats 4000000 in
theorem rCheck_ac {G : World → Prop} (hst : Stable G) (X Y : List (List PV)) (l0 l1 : List (ByteArray × Int)) (hX : l0.map encE = X) (hY : l1.map encE = Y) (hl0 : l0.length ≤ 1000000) (hl1 : l1.length ≤ 1000000) (a2 a3 a4 a5 a6 a7 a8 : Int) (c : Bool) (hM : ACalls G Tryz.prog 57 [encLv X Y a2 a3 a4 a5 a6 a7 a8] (.lit (.bool c)) none) (r : Int) (hr : (if c = true then 0 else 2) = r) :
    ACalls G Tryz.prog 12 [encLv X Y a2 a3 a4 a5 a6 a7 a8] (.lit (.int .i64 r)) none := by
  refine acalls_fn hst mixed tau_ok Tryz.func12 (by kernel_rfl) (by kernel_rfl) (by kernel_rfl) ?_
  intro Q hQ
  cbv
  refine ⟨_, _, hQ _ _ _ _ hM, ?_⟩
  cbv
  intro nb hn
  cases c
  · obtain rfl : nb = true := hn.out
    subst hr
    cbv
    try first | exact ⟨rfl, trivial⟩ | exact Or.inr trivial | exact Or.inl rfl
  · obtain rfl : nb = false := hn.out
    subst hr
    cbv
    try first | exact ⟨rfl, trivial⟩ | exact Or.inr trivial | exact Or.inl rfl
end Go.Proofs.YtpflimghkckpjaaGreatDoor.B
