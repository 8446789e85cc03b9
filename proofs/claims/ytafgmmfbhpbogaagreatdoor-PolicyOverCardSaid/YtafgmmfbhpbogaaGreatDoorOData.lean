/-
  Which data are batches and policies.
-/
import Derived.Test.YtafgmmfbhpbogaaGreatDoorBat
import Derived.Test.YtafgmmfbhpbogaaGreatDoorOVa
import Derived.Test.YtafgmmfbhpbogaaGreatDoorOVh
import Derived.Test.YtafgmmfbhpbogaaGreatDoorPData
set_option linter.unusedSimpArgs false
set_option linter.unusedVariables false
set_option maxHeartbeats 4000000
namespace Go.Proofs.YtafgmmfbhpbogaaGreatDoor
open Go Go.VG
set_option maxRecDepth 100000
section
variable {H : Type}
theorem WkL.app {a b c d : List V} (h1 : WkL a b) (h2 : WkL c d) : WkL (a ++ c) (b ++ d) := by
  intro st g q vs hv
  have hd := VRs_take (k := a.length) hv
  have he := VRs_drop (k := a.length) hv
  rw [List.take_left] at hd
  rw [List.drop_left] at he
  have := VRs_append (h1 _ _ _ _ hd) (h2 _ _ _ _ he)
  rw [List.take_append_drop] at this
  exact this
theorem cellsD_arrayO {ti : TypeId → TI} {f : Nat} {t : TypeId} {d : DataW H} {xs : List V} {n : Nat} {e : TypeId} (hk : (ti t).k = .array n e) (h : cellsD ti f t d = some xs) :
    ∃ f' parts xss, f = f' + 1 ∧ d = .agg parts ∧ (parts : List (DataW H)).length = n ∧ (parts.mapM fun x => cellsD ti f' e x) = some xss ∧ xs = xss.flatten := by
  cases f with
  | zero => cases h
  | succ f =>
    simp only [cellsD, hk] at h
    cases d with
    | agg parts =>
      simp only at h
      cases hb : Nat.beq n parts.length with
      | false => rw [hb] at h; cases h
      | true =>
        rw [hb] at h
        simp only [cond_true, Option.map_eq_some_iff] at h
        obtain ⟨xss, h1, h2⟩ := h
        exact ⟨f, parts, xss, rfl, rfl, (Nat.eq_of_beq_eq_true hb).symm, h1, h2.symm⟩
    | _ => cases h
theorem bytes_of {f : Nat} : ∀ {ps : List (DataW H)} {xss : List (List V)}, (ps.mapM fun x => cellsD tt f 5 x) = some xss → ∃ l : List Int, l.length = ps.length ∧ xss.flatten = l.map (V.int .u8)
  | [], _, h => by simp at h; subst h; exact ⟨[], rfl, rfl⟩
  | p :: ps, _, h => by
    obtain ⟨c, r, h0, h1, rfl⟩ := mapM_two h
    obtain ⟨n, rfl⟩ := cellsD_intK (k := .u8) rfl h0
    obtain ⟨l, h2, h3⟩ := bytes_of h1
    exact ⟨n :: l, by simp [h2], by rw [List.flatten_cons, h3]; rfl⟩
theorem x_str {f : Nat} {d : DataW H} {xs : List V} (h : cellsD tt f 9 d = some xs) : ∃ s : List UInt8, WkL xs [.str s] := by
  obtain ⟨s, rfl⟩ := cellsD_str rfl h
  exact ⟨s, WkL.refl _⟩
theorem x_int {f : Nat} {d : DataW H} {xs : List V} (h : cellsD tt f 3 d = some xs) : ∃ s : Int, WkL xs [.int .i64 s] := by
  obtain ⟨s, rfl⟩ := cellsD_intK (k := .i64) rfl h
  exact ⟨s, WkL.refl _⟩
theorem x_u64 {f : Nat} {d : DataW H} {xs : List V} (h : cellsD tt f 56 d = some xs) : ∃ s : Int, WkL xs [.int .u64 s] := by
  obtain ⟨s, rfl⟩ := cellsD_intK (k := .u64) rfl h
  exact ⟨s, WkL.refl _⟩
theorem x_arr {n : Nat} {t : TypeId} (hk : (tt t).k = .array n 5) {f : Nat} {d : DataW H} {xs : List V} (h : cellsD tt f t d = some xs) : ∃ l : {l : List Int // l.length = n}, WkL xs (l.1.map (V.int .u8)) := by
  obtain ⟨f', parts, xss, rfl, rfl, hlen, hm, rfl⟩ := cellsD_arrayO hk h
  obtain ⟨l, h1, h2⟩ := bytes_of hm
  exact ⟨⟨l, by omega⟩, by rw [h2]; exact WkL.refl _⟩
theorem x_slice {α : Type} {enc : α → V} {sz : Nat} {t e : TypeId} (hk : (tt t).k = .slice e) (hz : (tt e).size = sz) (hx : ∀ {f : Nat} {d : DataW H} {x : V}, (cellsD tt f e d).bind (asV (tt e).k.isAgg) = some x → ∃ a, Wk x (enc a)) {f : Nat} {d : DataW H} {xs : List V} (h : cellsD tt f t d = some xs) : ∃ l : List α, WkL xs [.list false sz (l.map enc)] := by
  subst hz
  rcases cellsD_slice hk h with rfl | ⟨f', ds, l, hf, hm, rfl⟩
  · exact ⟨[], WkL.cons (Wk.nil (.inl rfl)) WkL.nil⟩
  · obtain ⟨bs, hb, _⟩ := list_of (sz := (tt e).size) hm (enc := enc) fun d x hh => hx hh
    exact ⟨bs, WkL.cons hb WkL.nil⟩
theorem x_agg {α : Type} {enc : α → List V} {e : TypeId} (ha : (tt e).k.isAgg = true) (hx : ∀ {f : Nat} {d : DataW H} {xs : List V}, cellsD tt f e d = some xs → ∃ a, WkL xs (enc a)) {f : Nat} {d : DataW H} {x : V} (h : (cellsD tt f e d).bind (asV (tt e).k.isAgg) = some x) : ∃ a, Wk x (.agg (enc a)) := by
  simp only [Option.bind_eq_some_iff] at h
  obtain ⟨cs, h1, h2⟩ := h
  obtain ⟨a, h⟩ := hx h1
  rw [ha] at h2
  have h2 : some (V.agg cs) = some x := h2
  cases h2
  exact ⟨a, Wk.agg h⟩
theorem x_att {f : Nat} {d : DataW H} {xs : List V} (h : cellsD tt f 43 d = some xs) : ∃ l : List Att, WkL xs [.list false 7 (encM l)] := by
  obtain ⟨l, hl⟩ := x_slice (sz := 7) (enc := ea) (e := 74) rfl rfl (fun {f d x} hx => by
    simp only [Option.bind_eq_some_iff] at hx
    obtain ⟨cs, h1, h2⟩ := hx
    obtain ⟨v, hv⟩ := (data_val f).2 d cs h1
    have h2 : some (V.agg cs) = some x := h2
    cases h2
    exact ⟨v, Wk.agg hv⟩) h
  exact ⟨l, by rw [encM_map]; exact hl⟩
theorem data_ev {f : Nat} {d : DataW H} {xs : List V} (h : cellsD tt f 84 d = some xs) : ∃ e : Ev, WkL xs (eEvc e) := by
  obtain ⟨f', parts, xss, rfl, hlen, hm, rfl⟩ := cellsD_struct (fs := [(0, 56), (1, 9), (2, 43)]) rfl h
  match parts, hlen, hm with
  | [p0, p1, p2], _, hm0 =>
    obtain ⟨c0, r0, h0, hm1, rfl⟩ := mapM_two hm0
    obtain ⟨c1, r1, h1, hm2, rfl⟩ := mapM_two hm1
    obtain ⟨c2, r2, h2, hm3, rfl⟩ := mapM_two hm2
    simp at hm3; subst hm3
    obtain ⟨x0, w0⟩ := x_u64 h0
    obtain ⟨x1, w1⟩ := x_str h1
    obtain ⟨x2, w2⟩ := x_att h2
    simp only [List.flatten_cons, List.flatten_nil]
    exact ⟨⟨x0, x1, x2⟩, WkL.app w0 (WkL.app w1 (WkL.app w2 (WkL.nil)))⟩
theorem data_lk {f : Nat} {d : DataW H} {xs : List V} (h : cellsD tt f 86 d = some xs) : ∃ e : Lk, WkL xs (eLkc e) := by
  obtain ⟨f', parts, xss, rfl, hlen, hm, rfl⟩ := cellsD_struct (fs := [(0, 53), (16, 55), (24, 9), (25, 43)]) rfl h
  match parts, hlen, hm with
  | [p0, p1, p2, p3], _, hm0 =>
    obtain ⟨c0, r0, h0, hm1, rfl⟩ := mapM_two hm0
    obtain ⟨c1, r1, h1, hm2, rfl⟩ := mapM_two hm1
    obtain ⟨c2, r2, h2, hm3, rfl⟩ := mapM_two hm2
    obtain ⟨c3, r3, h3, hm4, rfl⟩ := mapM_two hm3
    simp at hm4; subst hm4
    obtain ⟨x0, w0⟩ := x_arr rfl h0
    obtain ⟨x1, w1⟩ := x_arr rfl h1
    obtain ⟨x2, w2⟩ := x_str h2
    obtain ⟨x3, w3⟩ := x_att h3
    simp only [List.flatten_cons, List.flatten_nil]
    match x0, x1, w0, w1 with
    | ⟨[a0, a1, a2, a3, a4, a5, a6, a7, a8, a9, a10, a11, a12, a13, a14, a15], _⟩, ⟨[b0, b1, b2, b3, b4, b5, b6, b7], _⟩, w0, w1 => exact ⟨⟨a0, a1, a2, a3, a4, a5, a6, a7, a8, a9, a10, a11, a12, a13, a14, a15, b0, b1, b2, b3, b4, b5, b6, b7, x2, x3⟩, WkL.app w0 (WkL.app w1 (WkL.app w2 (WkL.app w3 (WkL.nil))))⟩
theorem x_evs {f : Nat} {d : DataW H} {xs : List V} (h : cellsD tt f 57 d = some xs) : ∃ l : List Ev, WkL xs [.list false 3 (l.map eEv)] := x_slice (e := 84) rfl rfl (x_agg rfl data_ev) h
theorem x_lks {f : Nat} {d : DataW H} {xs : List V} (h : cellsD tt f 58 d = some xs) : ∃ l : List Lk, WkL xs [.list false 26 (l.map eLk)] := x_slice (e := 86) rfl rfl (x_agg rfl data_lk) h
theorem data_st {f : Nat} {d : DataW H} {xs : List V} (h : cellsD tt f 60 d = some xs) : ∃ e : Int × List UInt8, WkL xs [.int .i64 e.1, .str e.2] := by
  obtain ⟨f', parts, xss, rfl, hlen, hm, rfl⟩ := cellsD_struct (fs := [(0, 3), (1, 9)]) rfl h
  match parts, hlen, hm with
  | [p0, p1], _, hm0 =>
    obtain ⟨c0, r0, h0, hm1, rfl⟩ := mapM_two hm0
    obtain ⟨c1, r1, h1, hm2, rfl⟩ := mapM_two hm1
    simp at hm2; subst hm2
    obtain ⟨x0, w0⟩ := x_int h0
    obtain ⟨x1, w1⟩ := x_str h1
    simp only [List.flatten_cons, List.flatten_nil]
    exact ⟨⟨x0, x1⟩, WkL.app w0 (WkL.app w1 (WkL.nil))⟩
theorem data_sp {f : Nat} {d : DataW H} {xs : List V} (h : cellsD tt f 62 d = some xs) : ∃ e : Sp, WkL xs (eSpc e) := by
  obtain ⟨f', parts, xss, rfl, hlen, hm, rfl⟩ := cellsD_struct (fs := [(0, 53), (16, 55), (24, 55), (32, 9), (33, 9), (34, 3), (35, 56), (36, 56), (37, 43), (38, 57), (39, 58), (40, 60)]) rfl h
  match parts, hlen, hm with
  | [p0, p1, p2, p3, p4, p5, p6, p7, p8, p9, p10, p11], _, hm0 =>
    obtain ⟨c0, r0, h0, hm1, rfl⟩ := mapM_two hm0
    obtain ⟨c1, r1, h1, hm2, rfl⟩ := mapM_two hm1
    obtain ⟨c2, r2, h2, hm3, rfl⟩ := mapM_two hm2
    obtain ⟨c3, r3, h3, hm4, rfl⟩ := mapM_two hm3
    obtain ⟨c4, r4, h4, hm5, rfl⟩ := mapM_two hm4
    obtain ⟨c5, r5, h5, hm6, rfl⟩ := mapM_two hm5
    obtain ⟨c6, r6, h6, hm7, rfl⟩ := mapM_two hm6
    obtain ⟨c7, r7, h7, hm8, rfl⟩ := mapM_two hm7
    obtain ⟨c8, r8, h8, hm9, rfl⟩ := mapM_two hm8
    obtain ⟨c9, r9, h9, hm10, rfl⟩ := mapM_two hm9
    obtain ⟨c10, r10, h10, hm11, rfl⟩ := mapM_two hm10
    obtain ⟨c11, r11, h11, hm12, rfl⟩ := mapM_two hm11
    simp at hm12; subst hm12
    obtain ⟨x0, w0⟩ := x_arr rfl h0
    obtain ⟨x1, w1⟩ := x_arr rfl h1
    obtain ⟨x2, w2⟩ := x_arr rfl h2
    obtain ⟨x3, w3⟩ := x_str h3
    obtain ⟨x4, w4⟩ := x_str h4
    obtain ⟨x5, w5⟩ := x_int h5
    obtain ⟨x6, w6⟩ := x_u64 h6
    obtain ⟨x7, w7⟩ := x_u64 h7
    obtain ⟨x8, w8⟩ := x_att h8
    obtain ⟨x9, w9⟩ := x_evs h9
    obtain ⟨x10, w10⟩ := x_lks h10
    obtain ⟨x11, w11⟩ := data_st h11
    simp only [List.flatten_cons, List.flatten_nil]
    match x0, x1, x2, w0, w1, w2 with
    | ⟨[a0, a1, a2, a3, a4, a5, a6, a7, a8, a9, a10, a11, a12, a13, a14, a15], _⟩, ⟨[b0, b1, b2, b3, b4, b5, b6, b7], _⟩, ⟨[c0, c1, c2, c3, c4, c5, c6, c7], _⟩, w0, w1, w2 => exact ⟨⟨a0, a1, a2, a3, a4, a5, a6, a7, a8, a9, a10, a11, a12, a13, a14, a15, b0, b1, b2, b3, b4, b5, b6, b7, c0, c1, c2, c3, c4, c5, c6, c7, x3, x4, x5, x6, x7, x8, x9, x10, x11.1, x11.2⟩, WkL.app w0 (WkL.app w1 (WkL.app w2 (WkL.app w3 (WkL.app w4 (WkL.app w5 (WkL.app w6 (WkL.app w7 (WkL.app w8 (WkL.app w9 (WkL.app w10 (WkL.app w11 (WkL.nil))))))))))))⟩
theorem x_sps {f : Nat} {d : DataW H} {xs : List V} (h : cellsD tt f 48 d = some xs) : ∃ l : List Sp, WkL xs [.list false 42 (l.map eSp)] := x_slice (e := 62) rfl rfl (x_agg rfl data_sp) h
theorem data_sc {f : Nat} {d : DataW H} {xs : List V} (h : cellsD tt f 50 d = some xs) : ∃ e : Sc, WkL xs [.str e.name, .str e.version, .list false 42 (e.spans.map eSp)] := by
  obtain ⟨f', parts, xss, rfl, hlen, hm, rfl⟩ := cellsD_struct (fs := [(0, 9), (1, 9), (2, 48)]) rfl h
  match parts, hlen, hm with
  | [p0, p1, p2], _, hm0 =>
    obtain ⟨c0, r0, h0, hm1, rfl⟩ := mapM_two hm0
    obtain ⟨c1, r1, h1, hm2, rfl⟩ := mapM_two hm1
    obtain ⟨c2, r2, h2, hm3, rfl⟩ := mapM_two hm2
    simp at hm3; subst hm3
    obtain ⟨x0, w0⟩ := x_str h0
    obtain ⟨x1, w1⟩ := x_str h1
    obtain ⟨x2, w2⟩ := x_sps h2
    simp only [List.flatten_cons, List.flatten_nil]
    exact ⟨⟨x0, x1, x2⟩, WkL.app w0 (WkL.app w1 (WkL.app w2 (WkL.nil)))⟩
theorem x_scs {f : Nat} {d : DataW H} {xs : List V} (h : cellsD tt f 44 d = some xs) : ∃ l : List Sc, WkL xs [.list false 3 (l.map eSc)] := x_slice (e := 50) rfl rfl (x_agg rfl data_sc) h
theorem data_rs {f : Nat} {d : DataW H} {xs : List V} (h : cellsD tt f 46 d = some xs) : ∃ e : Rs, WkL xs [.list false 7 (encM e.attrs), .list false 3 (e.scopes.map eSc)] := by
  obtain ⟨f', parts, xss, rfl, hlen, hm, rfl⟩ := cellsD_struct (fs := [(0, 43), (1, 44)]) rfl h
  match parts, hlen, hm with
  | [p0, p1], _, hm0 =>
    obtain ⟨c0, r0, h0, hm1, rfl⟩ := mapM_two hm0
    obtain ⟨c1, r1, h1, hm2, rfl⟩ := mapM_two hm1
    simp at hm2; subst hm2
    obtain ⟨x0, w0⟩ := x_att h0
    obtain ⟨x1, w1⟩ := x_scs h1
    simp only [List.flatten_cons, List.flatten_nil]
    exact ⟨⟨x0, x1⟩, WkL.app w0 (WkL.app w1 (WkL.nil))⟩
theorem x_rss {f : Nat} {d : DataW H} {xs : List V} (h : cellsD tt f 24 d = some xs) : ∃ l : List Rs, WkL xs [.list false 2 (l.map eRs)] := x_slice (e := 46) rfl rfl (x_agg rfl data_rs) h
theorem data_bt {f : Nat} {d : DataW H} {xs : List V} (h : cellsD tt f 26 d = some xs) : ∃ b : List Rs, WkL xs [.list false 2 (b.map eRs)] := by
  obtain ⟨f', parts, xss, rfl, hlen, hm, rfl⟩ := cellsD_struct (fs := [(0, 24)]) rfl h
  match parts, hlen, hm with
  | [p0], _, hm0 =>
    obtain ⟨c0, r0, h0, hm1, rfl⟩ := mapM_two hm0
    simp at hm1; subst hm1
    obtain ⟨x0, w0⟩ := x_rss h0
    simp only [List.flatten_cons, List.flatten_nil]
    exact ⟨x0, WkL.app w0 (WkL.nil)⟩
theorem data_po {f : Nat} {d : DataW H} {xs : List V} (h : cellsD tt f 23 d = some xs) : ∃ p : Po, WkL xs (ePoc p) := by
  obtain ⟨f', parts, xss, rfl, hlen, hm, rfl⟩ := cellsD_struct (fs := [(0, 3), (1, 3), (2, 3), (3, 3), (4, 3)]) rfl h
  match parts, hlen, hm with
  | [p0, p1, p2, p3, p4], _, hm0 =>
    obtain ⟨c0, r0, h0, hm1, rfl⟩ := mapM_two hm0
    obtain ⟨c1, r1, h1, hm2, rfl⟩ := mapM_two hm1
    obtain ⟨c2, r2, h2, hm3, rfl⟩ := mapM_two hm2
    obtain ⟨c3, r3, h3, hm4, rfl⟩ := mapM_two hm3
    obtain ⟨c4, r4, h4, hm5, rfl⟩ := mapM_two hm4
    simp at hm5; subst hm5
    obtain ⟨x0, w0⟩ := x_int h0
    obtain ⟨x1, w1⟩ := x_int h1
    obtain ⟨x2, w2⟩ := x_int h2
    obtain ⟨x3, w3⟩ := x_int h3
    obtain ⟨x4, w4⟩ := x_int h4
    simp only [List.flatten_cons, List.flatten_nil]
    exact ⟨⟨x0, x1, x2, x3, x4⟩, WkL.app w0 (WkL.app w1 (WkL.app w2 (WkL.app w3 (WkL.app w4 (WkL.nil)))))⟩
theorem isD_bt {d : DataW H} {x : V} (h : IsD tt 26 d x) : ∃ b, Wk x (eBt b) := by
  obtain ⟨f, h⟩ := h
  exact x_agg rfl data_bt h
theorem isD_po {d : DataW H} {x : V} (h : IsD tt 23 d x) : ∃ p, Wk x (.agg (ePoc p)) := by
  obtain ⟨f, h⟩ := h
  exact x_agg rfl data_po h
end
end Go.Proofs.YtafgmmfbhpbogaaGreatDoor
