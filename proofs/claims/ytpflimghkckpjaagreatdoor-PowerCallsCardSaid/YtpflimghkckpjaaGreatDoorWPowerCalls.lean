/-
The law PowerCalls, walked.
-/
import Derived.Test.YtpflimghkckpjaaGreatDoorBPure
import Derived.Test.YtpflimghkckpjaaGreatDoorBLight
import Derived.Test.YtpflimghkckpjaaGreatDoorBSame2
set_option linter.unusedVariables false
set_option linter.unusedSimpArgs false
namespace Go.Proofs.YtpflimghkckpjaaGreatDoor.B
open Go.RowKit
def sA : ByteArray := ⟨#[64, 97, 58, 115]⟩
def sB : ByteArray := ⟨#[64, 98, 58, 115]⟩
def sM : ByteArray := ⟨#[109]⟩
theorem userA : H.userB sA = true := by kernel_rfl
set_option maxRecDepth 100000 in
set_option maxHeartbeats 4000000 in
theorem lives_ac : ACalls H.Tab Tryz.prog 9 [] (.lit (.bool true)) none := by
  have CU := pUser_ac tab_stable sA (by decide)
  rw [userA] at CU
  obtain ⟨X, hX⟩ : ∃ X, [(sA, (100 : Int))].map encE = X := ⟨_, rfl⟩
  have CD := defaultpU_ac tab_stable sA true CU X hX
  have hAA : OfAt [(sA, (100 : Int))] 0 sA 100 := ⟨100, true, .inl ⟨rfl, 0, _, rfl, rfl, rfl, fun x q hx => absurd hx (by omega)⟩, rfl⟩
  have hAB : OfAt [(sA, (100 : Int))] 0 sB 0 := ⟨0, false, .inr ⟨rfl, rfl, fun x q hq e => by
    cases x with
    | zero =>
      simp at hq
      subst hq
      exact absurd e (by decide)
    | succ x => simp at hq⟩, rfl⟩
  have hM : ∀ d, OfAt [] d sM d := fun d => ⟨0, false, .inr ⟨rfl, rfl, fun x q hq => by simp at hq⟩, rfl⟩
  have C1 := pMay_ac X [] [(sA, (100 : Int))] [] hX rfl (by simp) (by simp) 0 0 50 50 50 50 0 sA 3 100 hAA true (by decide)
  have C2 := pMay_ac X [] [(sA, (100 : Int))] [] hX rfl (by simp) (by simp) 0 0 50 50 50 50 0 sB 3 0 hAB false (by decide)
  have C3 := pSend_ac X [] [(sA, (100 : Int))] [] hX rfl (by simp) (by simp) 0 0 50 50 50 50 0 sB sM false 0 0 hAB (hM 0) true (by decide)
  have C4 := pSend_ac X [] [(sA, (100 : Int))] [] hX rfl (by simp) (by simp) 0 0 50 50 50 50 0 sB sM true 0 50 hAB (hM 50) false (by decide)
  clear CU
  unfold sA at CD C1
  unfold sB at C2 C3 C4
  unfold sM at C3 C4
  refine acalls_fn tab_stable mixed tau_ok Tryz.func9 (by kernel_rfl) (by kernel_rfl) (by kernel_rfl) ?_
  intro Q hQ
  cbv
  refine ⟨_, _, hQ _ _ _ _ CD, ?_⟩
  cbv
  refine ⟨_, _, hQ _ _ _ _ C1, ?_⟩
  cbv
  refine ⟨_, _, hQ _ _ _ _ C2, ?_⟩
  cbv
  intro d1 g1
  obtain rfl : d1 = true := g1.out
  cbv
  refine ⟨_, _, hQ _ _ _ _ C3, ?_⟩
  cbv
  refine ⟨_, _, hQ _ _ _ _ C4, ?_⟩
  cbv
  intro d2 g2
  obtain rfl : d2 = true := g2.out
  cbv
  try first | exact ⟨rfl, trivial⟩ | exact Or.inr trivial | exact Or.inl rfl
theorem same_true {α : Type} [DecidableEq α] {a : α} {m : Bool} (h : Is m (fun _ => decide (a = a))) : m = true := h.out.trans (by simp)
theorem small {l : List (ByteArray × Int)} (h : ∀ x, x < l.length → SmallAt l x) : ∀ p ∈ l, p.1.size ≤ 9223372036854775807 := fun p hp => by
  obtain ⟨x, hx, rfl⟩ := List.getElem_of_mem hp
  have := h x hx _ (List.getElem?_eq_getElem hx)
  omega
open Classical in
set_option maxRecDepth 100000 in
set_option cbv.maxSteps 10000000 in
set_option maxHeartbeats 16000000 in
theorem powerCalls_ac (X Y : List (List PV)) (l0 l1 : List (ByteArray × Int)) (hX : l0.map encE = X) (hY : l1.map encE = Y) (a2 a3 a4 a5 a6 a7 a8 : Int) (Z W : List (List PV)) (m0 m1 : List (ByteArray × Int)) (hZ : m0.map encE = Z) (hW : m1.map encE = W) (b2 b3 b4 b5 b6 b7 b8 : Int) (u v t : ByteArray) (st : Bool) (act : Int) :
    ACalls H.Tab Tryz.prog 3 [encLv X Y a2 a3 a4 a5 a6 a7 a8, encLv Z W b2 b3 b4 b5 b6 b7 b8, .lit (.string u), .lit (.string v), .lit (.string t), .lit (.bool st), .lit (.int .i64 act)] (.lit (.bool true)) none := by
  have CL := lives_ac
  have L0 := fun c hc => light_ac tab_stable X Y l0 l1 hX hY a2 a3 a4 a5 a6 a7 a8 c hc
  have L1 := fun c hc => light_ac tab_stable Z W m0 m1 hZ hW b2 b3 b4 b5 b6 b7 b8 c hc
  by_cases hLt0 : Light l0 l1
  case neg =>
    have C0 := L0 false (by simp [hLt0])
    refine acalls_fn tab_stable mixed tau_ok Tryz.func3 (by kernel_rfl) (by kernel_rfl) (by kernel_rfl) ?_
    intro Q hQ
    cbv
    refine ⟨_, _, hQ _ _ _ _ CL, ?_⟩
    cbv
    intro d1 g1
    obtain rfl : d1 = false := g1.out
    cbv
    refine ⟨_, _, hQ _ _ _ _ C0, ?_⟩
    cbv
    intro d2 g2
    obtain rfl : d2 = true := g2.out
    cbv
    try first | exact ⟨rfl, trivial⟩ | exact Or.inr trivial | exact Or.inl rfl
  by_cases hLt1 : Light m0 m1
  case neg =>
    have C0 := L0 true (by simp [hLt0])
    have C1 := L1 false (by simp [hLt1])
    refine acalls_fn tab_stable mixed tau_ok Tryz.func3 (by kernel_rfl) (by kernel_rfl) (by kernel_rfl) ?_
    intro Q hQ
    cbv
    refine ⟨_, _, hQ _ _ _ _ CL, ?_⟩
    cbv
    intro d1 g1
    obtain rfl : d1 = false := g1.out
    cbv
    refine ⟨_, _, hQ _ _ _ _ C0, ?_⟩
    cbv
    intro d2 g2
    obtain rfl : d2 = false := g2.out
    cbv
    refine ⟨_, _, hQ _ _ _ _ C1, ?_⟩
    cbv
    intro d3 g3
    obtain rfl : d3 = true := g3.out
    cbv
    try first | exact ⟨rfl, trivial⟩ | exact Or.inr trivial | exact Or.inl rfl
  have C0 := L0 true (by simp [hLt0])
  have C1 := L1 true (by simp [hLt1])
  clear L0 L1
  by_cases hsz : u.size ≤ 300
  case neg =>
    refine acalls_fn tab_stable mixed tau_ok Tryz.func3 (by kernel_rfl) (by kernel_rfl) (by kernel_rfl) ?_
    intro Q hQ
    cbv
    refine ⟨_, _, hQ _ _ _ _ CL, ?_⟩
    cbv
    intro d1 g1
    obtain rfl : d1 = false := g1.out
    cbv
    refine ⟨_, _, hQ _ _ _ _ C0, ?_⟩
    cbv
    intro d2 g2
    obtain rfl : d2 = false := g2.out
    cbv
    refine ⟨_, _, hQ _ _ _ _ C1, ?_⟩
    cbv
    intro d3 g3
    obtain rfl : d3 = false := g3.out
    cbv
    intro m1' h1
    cbv
    intro c1 h2
    have e1 := h1.len
    cases c1
    · exact absurd (by have := h2.no; omega) hsz
    · cbv
      try first | exact ⟨rfl, trivial⟩ | exact Or.inr trivial | exact Or.inl rfl
  have hl0 : l0.length ≤ 1000000 := by have := hLt0.n0; omega
  have hl1 : l1.length ≤ 1000000 := by have := hLt0.n1; omega
  have hm0 : m0.length ≤ 1000000 := by have := hLt1.n0; omega
  have hm1 : m1.length ≤ 1000000 := by have := hLt1.n1; omega
  have hs0 := small hLt0.s0
  have hs1 := small hLt0.s1
  have ht0 := small hLt1.s0
  have ht1 := small hLt1.s1
  -- the right values
  obtain ⟨c1, hc1⟩ : ∃ c, H.rightB l0 l1 a2 a3 a4 a5 a6 a7 a8 = c := ⟨_, rfl⟩
  obtain ⟨c2, hc2⟩ : ∃ c, H.rightB m0 m1 b2 b3 b4 b5 b6 b7 b8 = c := ⟨_, rfl⟩
  have M1 := rMay_ok tab_stable X Y l0 l1 hX hY hl0 hl1 a2 a3 a4 a5 a6 a7 a8 H.userB H.validB (fun q hq => rUser_ac tab_stable q.1 (hs0 q hq)) (fun q hq => rValid_ac tab_stable q.1 (hs1 q hq)) c1 (by rw [← hc1]; exact right_iff _ _ _ _ _ _ _ _ _)
  have M2 := rMay_ok tab_stable Z W m0 m1 hZ hW hm0 hm1 b2 b3 b4 b5 b6 b7 b8 H.userB H.validB (fun q hq => rUser_ac tab_stable q.1 (ht0 q hq)) (fun q hq => rValid_ac tab_stable q.1 (ht1 q hq)) c2 (by rw [← hc2]; exact right_iff _ _ _ _ _ _ _ _ _)
  -- Check
  obtain ⟨rc, hrc⟩ : ∃ r : Int, (if c1 = true then 0 else 2) = r := ⟨_, rfl⟩
  have K1 := pCheck_ac X Y l0 l1 hX hY hl0 hl1 a2 a3 a4 a5 a6 a7 a8 hs0 hs1 rc (by rw [hc1]; exact hrc)
  have K2 := rCheck_ac tab_stable X Y l0 l1 hX hY hl0 hl1 a2 a3 a4 a5 a6 a7 a8 c1 M1 rc hrc
  -- Default
  obtain ⟨bu, hbu⟩ : ∃ b, H.userB u = b := ⟨_, rfl⟩
  obtain ⟨LD, hLD⟩ : ∃ L, (if bu = true then [(u, (100 : Int))] else []) = L := ⟨_, rfl⟩
  obtain ⟨XD, hXD⟩ : ∃ X, LD.map encE = X := ⟨_, rfl⟩
  have hXD' : (if bu = true then [[.lit (.string u), .lit (.int .i64 100)]] else []) = XD := by rw [← hXD, ← hLD]; cases bu <;> rfl
  have D1 := defaultpU_ac tab_stable u bu (by rw [← hbu]; exact pUser_ac tab_stable u (by omega)) XD hXD'
  have D2 := defaultrU_ac tab_stable u bu (by rw [← hbu]; exact rUser_ac tab_stable u (by omega)) XD hXD'
  have D3 := same_ac tab_stable XD [] LD [] hXD rfl (by rw [← hLD]; cases bu <;> simp) (by simp) 0 0 50 50 50 50 0
  -- Of, Need, May, Send, Above
  obtain ⟨nu, bu', hu⟩ := look_ex l0 u
  obtain ⟨ru, hru⟩ : ∃ r, (if bu' = true then nu else a2) = r := ⟨_, rfl⟩
  have hOu : OfAt l0 a2 u ru := ⟨nu, bu', hu, hru.symm⟩
  obtain ⟨nv, bv, hv⟩ := look_ex l0 v
  obtain ⟨rv, hrv⟩ : ∃ r, (if bv = true then nv else a2) = r := ⟨_, rfl⟩
  have hOv : OfAt l0 a2 v rv := ⟨nv, bv, hv, hrv.symm⟩
  obtain ⟨nt, bt, ht⟩ := look_ex l1 t
  obtain ⟨rt, hrt⟩ : ∃ r, (if bt = true then nt else (if st = true then a4 else a3)) = r := ⟨_, rfl⟩
  have hOt : OfAt l1 (if st = true then a4 else a3) t rt := ⟨nt, bt, ht, hrt.symm⟩
  have O1 := pOf_ac X Y l0 l1 hX hY hl0 hl1 a2 a3 a4 a5 a6 a7 a8 u ru hOu
  have O2 := rOf_ac tab_stable X Y l0 l1 hX hY hl0 hl1 a2 a3 a4 a5 a6 a7 a8 u ru hOu
  have N1 := pNeed_ac X Y l0 l1 hX hY hl0 hl1 a2 a3 a4 a5 a6 a7 a8 t st rt hOt
  have N2 := rNeed_ac tab_stable X Y l0 l1 hX hY hl0 hl1 a2 a3 a4 a5 a6 a7 a8 t st rt hOt
  obtain ⟨cm, hcm⟩ : ∃ c, (if act = 1 then decide (a8 ≤ ru) else if act = 2 then decide (a6 ≤ ru) else if act = 3 then decide (a5 ≤ ru) else if act = 4 then decide (a7 ≤ ru) else false) = c := ⟨_, rfl⟩
  have Y1 := pMay_ac X Y l0 l1 hX hY hl0 hl1 a2 a3 a4 a5 a6 a7 a8 u act ru hOu cm hcm
  have Y2 := rMay_ac tab_stable X Y l0 l1 hX hY hl0 hl1 a2 a3 a4 a5 a6 a7 a8 u act ru hOu cm hcm
  obtain ⟨cs, hcs⟩ : ∃ c, decide (rt ≤ ru) = c := ⟨_, rfl⟩
  have S1 := pSend_ac X Y l0 l1 hX hY hl0 hl1 a2 a3 a4 a5 a6 a7 a8 u t st ru rt hOu hOt cs hcs
  have S2 := rSend_ac tab_stable X Y l0 l1 hX hY hl0 hl1 a2 a3 a4 a5 a6 a7 a8 u t st ru rt hOu hOt cs hcs
  obtain ⟨ca, hca⟩ : ∃ c, decide (rv < ru) = c := ⟨_, rfl⟩
  have A1 := pAbove_ac X Y l0 l1 hX hY hl0 hl1 a2 a3 a4 a5 a6 a7 a8 u v ru rv hOu hOv ca hca
  have A2 := rAbove_ac tab_stable X Y l0 l1 hX hY hl0 hl1 a2 a3 a4 a5 a6 a7 a8 u v ru rv hOu hOv ca hca
  -- Change
  have W1 := ownLevels_ac tab_stable X Y (enc_len hX) (enc_len hY) (by rw [← hX]; simpa using hl0) (by rw [← hY]; simpa using hl1) a2 a3 a4 a5 a6 a7 a8
  have W2 := ownLevels_ac tab_stable Z W (enc_len hZ) (enc_len hW) (by rw [← hZ]; simpa using hm0) (by rw [← hW]; simpa using hm1) b2 b3 b4 b5 b6 b7 b8
  obtain ⟨cc, hcc⟩ : ∃ c, H.changeB l0 l1 a2 a3 a4 a5 a6 a7 a8 m0 m1 b2 b3 b4 b5 b6 b7 b8 u = c := ⟨_, rfl⟩
  have G1 := pChange_ac X Y l0 l1 hX hY hl0 hl1 a2 a3 a4 a5 a6 a7 a8 Z W m0 m1 hZ hW hm0 hm1 b2 b3 b4 b5 b6 b7 b8 hs0 hs1 ht0 ht1 u cc hcc
  obtain ⟨cU, hcU⟩ : ∃ c, (l0 ++ m0).all (fun p => H.userOK l0 a2 m0 b2 u ru p.1) = c := ⟨_, rfl⟩
  obtain ⟨cT, hcT⟩ : ∃ c, (l1 ++ m1).all (fun p => H.typeOK l1 a3 a4 m1 b3 b4 ru p.1) = c := ⟨_, rfl⟩
  have U1 := rusers_ac tab_stable X Y l0 l1 hX hY hl0 hl1 a2 a3 a4 a5 a6 a7 a8 Z W m0 m1 hZ hW hm0 hm1 b2 b3 b4 b5 b6 b7 b8 u ru cU (by rw [← hcU]; exact all_users _ _ _ _ _ _)
  have T1 := rtypes_ac tab_stable X Y l0 l1 hX hY hl0 hl1 a2 a3 a4 a5 a6 a7 a8 Z W m0 m1 hZ hW hm0 hm1 b2 b3 b4 b5 b6 b7 b8 ru _ _ rfl rfl cT (by rw [← hcT]; exact all_types _ _ _ _ _ _ _)
  have G2 := rChange_ac tab_stable X Y l0 l1 hX hY hl0 hl1 a2 a3 a4 a5 a6 a7 a8 Z W m0 m1 hZ hW hm0 hm1 b2 b3 b4 b5 b6 b7 b8 u ru hOu c1 c2 cU cT cc M1 M2 U1 T1 (change_iff _ _ _ _ _ _ _ _ _ _ _ _ _ _ _ _ _ _ _ _ hOu _ _ _ _ hc1 hc2 hcU hcT _ hcc)
  clear M1 M2 U1 T1 hcc hcU hcT hcm hca hcs hrc hOu hOv hOt hu hv ht hs0 hs1 ht0 ht1 hLt0 hLt1 hc1 hc2 hXD' hXD hLD
  refine acalls_fn tab_stable mixed tau_ok Tryz.func3 (by kernel_rfl) (by kernel_rfl) (by kernel_rfl) ?_
  intro Q hQ
  cbv
  refine ⟨_, _, hQ _ _ _ _ CL, ?_⟩
  cbv
  intro d1 g1
  obtain rfl : d1 = false := g1.out
  cbv
  refine ⟨_, _, hQ _ _ _ _ C0, ?_⟩
  cbv
  intro d2 g2
  obtain rfl : d2 = false := g2.out
  cbv
  refine ⟨_, _, hQ _ _ _ _ C1, ?_⟩
  cbv
  intro d3 g3
  obtain rfl : d3 = false := g3.out
  cbv
  intro k1 h1
  cbv
  intro e1 h2
  cases e1
  case true =>
    cbv
    try first | exact ⟨rfl, trivial⟩ | exact Or.inr trivial | exact Or.inl rfl
  cbv
  intro k2 h3
  cbv
  intro e2 h4
  cases e2
  case true =>
    cbv
    try first | exact ⟨rfl, trivial⟩ | exact Or.inr trivial | exact Or.inl rfl
  cbv
  intro k3 h5
  cbv
  intro e3 h6
  cases e3
  case true =>
    cbv
    try first | exact ⟨rfl, trivial⟩ | exact Or.inr trivial | exact Or.inl rfl
  clear h1 h2 h3 h4 h5 h6
  cbv
  refine ⟨_, _, hQ _ _ _ _ K1, ?_⟩
  cbv
  refine ⟨_, _, hQ _ _ _ _ K2, ?_⟩
  cbv
  intro z1 f1
  obtain rfl := same_true f1
  cbv
  refine ⟨_, _, hQ _ _ _ _ D1, ?_⟩
  cbv
  refine ⟨_, _, hQ _ _ _ _ D2, ?_⟩
  cbv
  refine ⟨_, _, hQ _ _ _ _ D3, ?_⟩
  cbv
  refine ⟨_, _, hQ _ _ _ _ O1, ?_⟩
  cbv
  refine ⟨_, _, hQ _ _ _ _ O2, ?_⟩
  cbv
  intro z2 f2
  obtain rfl := same_true f2
  cbv
  refine ⟨_, _, hQ _ _ _ _ N1, ?_⟩
  cbv
  refine ⟨_, _, hQ _ _ _ _ N2, ?_⟩
  cbv
  intro z3 f3
  obtain rfl := same_true f3
  cbv
  refine ⟨_, _, hQ _ _ _ _ Y1, ?_⟩
  cbv
  refine ⟨_, _, hQ _ _ _ _ Y2, ?_⟩
  cbv
  intro z4 f4
  obtain rfl := same_true f4
  cbv
  refine ⟨_, _, hQ _ _ _ _ S1, ?_⟩
  cbv
  refine ⟨_, _, hQ _ _ _ _ S2, ?_⟩
  cbv
  intro z5 f5
  obtain rfl := same_true f5
  cbv
  refine ⟨_, _, hQ _ _ _ _ A1, ?_⟩
  cbv
  refine ⟨_, _, hQ _ _ _ _ A2, ?_⟩
  cbv
  intro z6 f6
  obtain rfl := same_true f6
  cbv
  refine ⟨_, _, hQ _ _ _ _ W1, ?_⟩
  cbv
  refine ⟨_, _, hQ _ _ _ _ W2, ?_⟩
  cbv
  refine ⟨_, _, hQ _ _ _ _ G1, ?_⟩
  cbv
  refine ⟨_, _, hQ _ _ _ _ G2, ?_⟩
  cbv
  intro z7 f7
  obtain rfl := same_true f7
  cbv
  try first | exact ⟨rfl, trivial⟩ | exact Or.inr trivial | exact Or.inl rfl
end Go.Proofs.YtpflimghkckpjaaGreatDoor.B
