/- The keys of small maps, at this program. -/
import Derived.Test.YtnennjhbajpbfaaGreatDoorGvR5
import Derived.Test.YtnennjhbajpbfaaGreatDoorGvT
namespace Go.Gv
set_option linter.unusedVariables false
set_option linter.unusedSimpArgs false
set_option linter.unusedSectionVars false
open Go.Proofs
set_option maxRecDepth 10000
set_option maxHeartbeats 4000000
variable {M : Heap}
theorem mo : Tryz.prog.follows .mixedOrders = true := rfl
theorem keys0_201_153 : KeysOk0 Tryz.prog M 201 153 := by
  intro ρ el opn fz clk
  have ok0 : okHp (hk0 el opn fz [] clk) := hk0_ok (by simp)
  refine (appSeq_of_ev (T := TY) (E := E0) (G := G0) (M := M) (call := C0) (N := 13) E0_ok G0_ok C0_ok (by decide) Tryz.func201 rfl rfl rfl (by decide) rfl rfl rfl rfl rfl rfl Tryz.call153 (lb := [den ρ (.p 0 0)]) (h2 := hset .lf 0 (.cells 54 [.v (.slice none 0 0)] none 0)) (X := objs ρ (hk0 el opn fz [] clk)) ?_ (n2 := 1) rfl).post ?_
  · intro ρ1 l D fnid ok1 okt1
    refine gather_hK (h9 := hset (hk0 el opn fz [] clk) 2 (.mit (some 1) clk [] clk)) ok0 ?_ (fun ρ' => ent_two)
    refine ((keys0_of_ev (T := TY) (E := E0) (G := G0) (M := M) (call := C0) (N := 14) (ρ := ρ) (args := [.v (.func (.yield l) #[] #[]), .p 0 0]) E0_ok G0_ok C0_ok mo (by decide) Tryz.func153 rfl rfl rfl (Nat.le_of_ble_eq_true rfl) ok0 ⟨trivial, dom_self (by omega), trivial⟩ (n0 := 2) rfl).beside (X := _)).post ?_
    rintro v L ⟨L1, rfl, ρ', rfl, g⟩
    exact ⟨_, Ent.refl _, ρ', _, rfl, g, ρ1, rfl, .refl ok1⟩
  · rintro v L ⟨ρ4, rfl, rfl, _⟩
    exact ⟨_, Ent.refl _, rfl, Ent.right⟩
theorem keys1_201_153 : KeysOk1 Tryz.prog M 201 153 24 2 := by
  intro ρ el opn fz clk b0 kv vv cs hkv hvv hb
  obtain ⟨a, b, rfl, rfl⟩ := keyZ_2 hkv
  have ok0 : okHp (hk0 el opn fz [(.a [.v (.int .i64 a), .v (.int .i64 b)], vv, b0)] clk) := hk0_ok (by simp [hvv, okV, okVs])
  refine (appSeq_of_ev (T := TY) (E := E0) (G := G0) (M := M) (call := C0) (N := 13) E0_ok G0_ok C0_ok (by decide) Tryz.func201 rfl rfl rfl (by decide) rfl rfl rfl rfl rfl rfl Tryz.call153 (lb := [den ρ (.p 0 0)])
    (h2 := hset (hset (hset (hset .lf 0 (.cells 54 [.s 3 0 2 1 none 1 0] none 0)) 1 (.cells 24 [.v (.int .i64 a), .v (.int .i64 b)] none 0)) 2 (.cells 24 [.v (.int .i64 a), .v (.int .i64 b)] none 0)) 3 (.cells 24 [.v (.int .i64 a), .v (.int .i64 b)] (some (2, 1)) 0)) (X := objs ρ (hk0 el opn fz [(.a [.v (.int .i64 a), .v (.int .i64 b)], vv, b0)] clk)) ?_ (n2 := 1) rfl).post ?_
  · intro ρ1 l D fnid ok1 okt1
    refine gather_hK (h9 := hset (hset (hk0 el opn fz [(.a [.v (.int .i64 a), .v (.int .i64 b)], vv, b0)] clk) 2 (.mit (some 1) clk [b0] clk)) 3 (.cells 24 [.v (.int .i64 a), .v (.int .i64 b)] none 0)) ok0 ?_ (fun ρ' => ent_two)
    exact keys1_of_ev (T := TY) (E := E0) (G := G0) (M := M) (call := C0) (N := 14) (ρ := ρ) (args := [.v (.func (.yield l) #[] #[]), .p 0 0]) E0_ok G0_ok C0_ok mo (by decide) Tryz.func153 rfl rfl rfl (np := 2) rfl rfl rfl (Nat.le_of_ble_eq_true rfl) ok0 ⟨trivial, dom_self (by omega), trivial⟩ rfl rfl rfl rfl rfl (n0 := 2)
      rfl
      (evC_reg (evOps_cons rfl (ev1_next1 (c := 2) (m := 1) rfl rfl rfl hb) rfl rfl))
      rfl
      (evC_reg (evOps_cons rfl (ev1_entry (c := 2) (m := 1) rfl rfl rfl) rfl rfl))
      rfl rfl rfl rfl rfl rfl
      (evC_reg (evOps_cons rfl (ev1_next2 (c := 2) (m := 1) rfl rfl rfl hb) rfl rfl))
      rfl
      (fun ρ' => yield_of_ev (T := TY) (E := E0) (G := G0) (call := C0) E0_ok G0_ok C0_ok (by decide) ok1 okt1 (kv := .a [.v (.int .i64 a), .v (.int .i64 b)]) ⟨trivial, trivial, trivial⟩ rfl (nx := 1) rfl rfl rfl rfl)
  · rintro v L ⟨ρ4, rfl, rfl, _⟩
    exact ⟨_, Ent.refl _, ρ4, 3, rfl, Ent.app (ent_get (c := 3) rfl)⟩
theorem keys0_227_169 : KeysOk0 Tryz.prog M 227 169 := by
  intro ρ el opn fz clk
  have ok0 : okHp (hk0 el opn fz [] clk) := hk0_ok (by simp)
  refine (appSeq_of_ev (T := TY) (E := E0) (G := G0) (M := M) (call := C0) (N := 13) E0_ok G0_ok C0_ok (by decide) Tryz.func227 rfl rfl rfl (by decide) rfl rfl rfl rfl rfl rfl Tryz.call169 (lb := [den ρ (.p 0 0)]) (h2 := hset .lf 0 (.cells 87 [.v (.slice none 0 0)] none 0)) (X := objs ρ (hk0 el opn fz [] clk)) ?_ (n2 := 1) rfl).post ?_
  · intro ρ1 l D fnid ok1 okt1
    refine gather_hK (h9 := hset (hk0 el opn fz [] clk) 2 (.mit (some 1) clk [] clk)) ok0 ?_ (fun ρ' => ent_two)
    refine ((keys0_of_ev (T := TY) (E := E0) (G := G0) (M := M) (call := C0) (N := 14) (ρ := ρ) (args := [.v (.func (.yield l) #[] #[]), .p 0 0]) E0_ok G0_ok C0_ok mo (by decide) Tryz.func169 rfl rfl rfl (Nat.le_of_ble_eq_true rfl) ok0 ⟨trivial, dom_self (by omega), trivial⟩ (n0 := 2) rfl).beside (X := _)).post ?_
    rintro v L ⟨L1, rfl, ρ', rfl, g⟩
    exact ⟨_, Ent.refl _, ρ', _, rfl, g, ρ1, rfl, .refl ok1⟩
  · rintro v L ⟨ρ4, rfl, rfl, _⟩
    exact ⟨_, Ent.refl _, rfl, Ent.right⟩
theorem keys1_227_169 : KeysOk1 Tryz.prog M 227 169 9 1 := by
  intro ρ el opn fz clk b0 kv vv cs hkv hvv hb
  obtain ⟨s, rfl, rfl⟩ := keyZ_1 hkv
  have ok0 : okHp (hk0 el opn fz [(.v (.string s), vv, b0)] clk) := hk0_ok (by simp [hvv, okV, okVs])
  refine (appSeq_of_ev (T := TY) (E := E0) (G := G0) (M := M) (call := C0) (N := 13) E0_ok G0_ok C0_ok (by decide) Tryz.func227 rfl rfl rfl (by decide) rfl rfl rfl rfl rfl rfl Tryz.call169 (lb := [den ρ (.p 0 0)])
    (h2 := hset (hset (hset .lf 0 (.cells 87 [.s 2 0 1 1 none 1 0] none 0)) 1 (.cells 9 [.v (.string s)] none 0)) 2 (.cells 9 [.v (.string s)] (some (1, 1)) 0)) (X := objs ρ (hk0 el opn fz [(.v (.string s), vv, b0)] clk)) ?_ (n2 := 1) rfl).post ?_
  · intro ρ1 l D fnid ok1 okt1
    refine gather_hK (h9 := hset (hk0 el opn fz [(.v (.string s), vv, b0)] clk) 2 (.mit (some 1) clk [b0] clk)) ok0 ?_ (fun ρ' => ent_two)
    exact keys1_of_ev (T := TY) (E := E0) (G := G0) (M := M) (call := C0) (N := 14) (ρ := ρ) (args := [.v (.func (.yield l) #[] #[]), .p 0 0]) E0_ok G0_ok C0_ok mo (by decide) Tryz.func169 rfl rfl rfl (np := 2) rfl rfl rfl (Nat.le_of_ble_eq_true rfl) ok0 ⟨trivial, dom_self (by omega), trivial⟩ rfl rfl rfl rfl rfl (n0 := 2)
      rfl
      (evC_reg (evOps_cons rfl (ev1_next1 (c := 2) (m := 1) rfl rfl rfl hb) rfl rfl))
      rfl
      (evC_reg (evOps_cons rfl (ev1_entry (c := 2) (m := 1) rfl rfl rfl) rfl rfl))
      rfl rfl rfl rfl rfl rfl
      (evC_reg (evOps_cons rfl (ev1_next2 (c := 2) (m := 1) rfl rfl rfl hb) rfl rfl))
      rfl
      (fun ρ' => yield_of_ev (T := TY) (E := E0) (G := G0) (call := C0) E0_ok G0_ok C0_ok (by decide) ok1 okt1 (kv := .v (.string s)) trivial rfl (nx := 1) rfl rfl rfl rfl)
  · rintro v L ⟨ρ4, rfl, rfl, _⟩
    exact ⟨_, Ent.refl _, ρ4, 2, rfl, Ent.app (ent_get (c := 2) rfl)⟩
theorem keys0_227_217 : KeysOk0 Tryz.prog M 227 217 := by
  intro ρ el opn fz clk
  have ok0 : okHp (hk0 el opn fz [] clk) := hk0_ok (by simp)
  refine (appSeq_of_ev (T := TY) (E := E0) (G := G0) (M := M) (call := C0) (N := 13) E0_ok G0_ok C0_ok (by decide) Tryz.func227 rfl rfl rfl (by decide) rfl rfl rfl rfl rfl rfl Tryz.call217 (lb := [den ρ (.p 0 0)]) (h2 := hset .lf 0 (.cells 87 [.v (.slice none 0 0)] none 0)) (X := objs ρ (hk0 el opn fz [] clk)) ?_ (n2 := 1) rfl).post ?_
  · intro ρ1 l D fnid ok1 okt1
    refine gather_hK (h9 := hset (hk0 el opn fz [] clk) 2 (.mit (some 1) clk [] clk)) ok0 ?_ (fun ρ' => ent_two)
    refine ((keys0_of_ev (T := TY) (E := E0) (G := G0) (M := M) (call := C0) (N := 14) (ρ := ρ) (args := [.v (.func (.yield l) #[] #[]), .p 0 0]) E0_ok G0_ok C0_ok mo (by decide) Tryz.func217 rfl rfl rfl (Nat.le_of_ble_eq_true rfl) ok0 ⟨trivial, dom_self (by omega), trivial⟩ (n0 := 2) rfl).beside (X := _)).post ?_
    rintro v L ⟨L1, rfl, ρ', rfl, g⟩
    exact ⟨_, Ent.refl _, ρ', _, rfl, g, ρ1, rfl, .refl ok1⟩
  · rintro v L ⟨ρ4, rfl, rfl, _⟩
    exact ⟨_, Ent.refl _, rfl, Ent.right⟩
theorem keys1_227_217 : KeysOk1 Tryz.prog M 227 217 9 1 := by
  intro ρ el opn fz clk b0 kv vv cs hkv hvv hb
  obtain ⟨s, rfl, rfl⟩ := keyZ_1 hkv
  have ok0 : okHp (hk0 el opn fz [(.v (.string s), vv, b0)] clk) := hk0_ok (by simp [hvv, okV, okVs])
  refine (appSeq_of_ev (T := TY) (E := E0) (G := G0) (M := M) (call := C0) (N := 13) E0_ok G0_ok C0_ok (by decide) Tryz.func227 rfl rfl rfl (by decide) rfl rfl rfl rfl rfl rfl Tryz.call217 (lb := [den ρ (.p 0 0)])
    (h2 := hset (hset (hset .lf 0 (.cells 87 [.s 2 0 1 1 none 1 0] none 0)) 1 (.cells 9 [.v (.string s)] none 0)) 2 (.cells 9 [.v (.string s)] (some (1, 1)) 0)) (X := objs ρ (hk0 el opn fz [(.v (.string s), vv, b0)] clk)) ?_ (n2 := 1) rfl).post ?_
  · intro ρ1 l D fnid ok1 okt1
    refine gather_hK (h9 := hset (hk0 el opn fz [(.v (.string s), vv, b0)] clk) 2 (.mit (some 1) clk [b0] clk)) ok0 ?_ (fun ρ' => ent_two)
    exact keys1_of_ev (T := TY) (E := E0) (G := G0) (M := M) (call := C0) (N := 14) (ρ := ρ) (args := [.v (.func (.yield l) #[] #[]), .p 0 0]) E0_ok G0_ok C0_ok mo (by decide) Tryz.func217 rfl rfl rfl (np := 2) rfl rfl rfl (Nat.le_of_ble_eq_true rfl) ok0 ⟨trivial, dom_self (by omega), trivial⟩ rfl rfl rfl rfl rfl (n0 := 2)
      rfl
      (evC_reg (evOps_cons rfl (ev1_next1 (c := 2) (m := 1) rfl rfl rfl hb) rfl rfl))
      rfl
      (evC_reg (evOps_cons rfl (ev1_entry (c := 2) (m := 1) rfl rfl rfl) rfl rfl))
      rfl rfl rfl rfl rfl rfl
      (evC_reg (evOps_cons rfl (ev1_next2 (c := 2) (m := 1) rfl rfl rfl hb) rfl rfl))
      rfl
      (fun ρ' => yield_of_ev (T := TY) (E := E0) (G := G0) (call := C0) E0_ok G0_ok C0_ok (by decide) ok1 okt1 (kv := .v (.string s)) trivial rfl (nx := 1) rfl rfl rfl rfl)
  · rintro v L ⟨ρ4, rfl, rfl, _⟩
    exact ⟨_, Ent.refl _, ρ4, 2, rfl, Ent.app (ent_get (c := 2) rfl)⟩
end Go.Gv
