/- Walk of show.Line at an answer that has a line. -/
import Derived.Test.YtmakpilfjopmeaaDoorShow2
import Derived.Test.YtmakpilfjopmeaaDoorShort
set_option linter.unusedVariables false
set_option linter.unusedSimpArgs false
namespace Go.Proofs.YtmakpilfjopmeaaDoor
open Go Go.RowKit Go.Lib Go.Shelf

theorem lineA_len (x : Ans) (h : x.Valid) : (lineA x).length ≤ 2000 := by
  rw [← line_ref x h.data]
  have h1 := joinTail_len21 x.list h.ok.list
  have h2 := itoa_len20 x.why h.ok.why.1 h.ok.why.2
  have h3 := itoa_len20 x.n h.ok.n.1 h.ok.n.2
  have h4 := itoa_len20 x.m h.ok.m.1 h.ok.m.2
  have h5 := h.list
  have h6 : (shortL x.data).length ≤ 191 := by
    rcases h.data with h0 | h0
    · rw [h0]; simp [shortL]
    · exact short_le _ h0
  have e1 : (if x.n = 0 then [] else [32, 110, 32] ++ itoa x.n).length ≤ 23 := by split <;> simp <;> omega
  have e2 : (if x.m = 0 then [] else [32, 109, 32] ++ itoa x.m).length ≤ 23 := by split <;> simp <;> omega
  have e3 : (if x.data = [] then [] else [32, 100, 97, 116, 97, 32] ++ shortL x.data).length ≤ 197 := by split <;> simp <;> omega
  have e4 : (if x.list = [] then ([] : List UInt8) else [32, 108, 105, 115, 116]).length ≤ 5 := by split <;> simp
  unfold lineR
  simp only [List.length_append] at *
  simp only [List.length_cons, List.length_nil]
  omega

section
variable {P : Program} {ops : Array Oper} {rest : List Oper} {o : Oper} {a : Act} {Q : Exit → Act → World → Prop} {w W : World} {B : Nat} {t e : TypeId} {z : Value} {bytes : Nat}
/-- 'append(s, x, y)', x and y new elements (their block has just been laid). -/
theorem wpList_app2 (E : ElemT P t e z bytes) (hgd : o.guard = none) (s x : Operand)
    (ho : o.op = .call { callee := .builtin .append, args := #[s, x], argTypes := #[t, t] })
    {v : Value} {n : Nat} {xs : List Value} (hs : a.eval s = v) (hown : W.ownsRow B e 1 v n xs)
    {u u2 : Value} {t' : TypeId} (hx : a.eval x = .slice (some ⟨W.heap.size, 0, none⟩) 2 2) (h1 : u.oneCell' = true) (h2 : u2.oneCell' = true)
    (hlen : (n + 2) * bytes ≤ 140737488355328) (hlen' : n + 2 ≤ 140737488355328) (hb : Below B w W) (hB : B ≤ W.heap.size)
    (h : ∀ v' W', W'.ownsRow B e 1 v' (n + 2) (xs ++ [u, u2]) → Below B w W' → W.grownBy W' v.ownBlock → (v'.ownBlock = v.ownBlock ∨ ∃ b, v'.ownBlock = some b ∧ W.heap.size ≤ b) → wpList P ops Q rest (a.put o.dst v') W') : wpList P ops Q (o :: rest) a (W.alloc (.cells #[u, u2] t')) := by
  refine wpList_app (w := w) E hgd s x ho hs (hown.alloc _) hx (Rd.two W u u2 t') (fun y hy => by
    simp at hy
    rcases hy with rfl | rfl
    · exact h1
    · exact h2) hlen hlen' (hb.alloc hB _) (by simp; omega) fun v' W' h2 h3 h4 h5 => h v' W' h2 h3 (grown_alloc h4) (h5.imp id fun ⟨b, e1, e2⟩ => ⟨b, e1, by simp at e2; omega⟩)
end

/-- The words so far: the call's own row; the answer's box as it was laid. -/
structure WordsAt (w : World) (cs : Array Value) (v : Value) (ws : List (List UInt8)) (W : World) : Prop where
  own : W.ownsRow w.heap.size 9 1 v ws.length (strs ws)
  box : Blk W w.heap.size 57 cs
  below : Below w.heap.size w W
theorem WordsAt.call {w W W2 : World} {cs : Array Value} {v : Value} {ws : List (List UInt8)} (h : WordsAt w cs v ws W) (hb : Below W.heap.size W W2) : WordsAt w cs v ws W2 :=
  ⟨h.own.kept (own_grown_below hb) (by rcases v.ownBlock with _ | _ <;> simp), h.box.below hb h.box.lt, h.below.trans (hb.mono h.below.size)⟩
theorem WordsAt.app {w W W2 : World} {cs : Array Value} {v v' : Value} {ws xs : List (List UInt8)} {n : Nat} {us : List Value} (h : WordsAt w cs v ws W) (hn : n = ws.length + xs.length) (hu : us = strs xs)
    (ho : W2.ownsRow w.heap.size 9 1 v' n (strs ws ++ us)) (hb : Below w.heap.size w W2) (hg : W.grownBy W2 v.ownBlock) : WordsAt w cs v' (ws ++ xs) W2 := by
  subst hn hu
  exact ⟨by rw [List.length_append, strs_append]; exact ho, h.box.grown hg (fun e => h.box.own_ne h.own (by decide) e.symm), hb⟩
theorem WordsAt.lt {w W : World} {cs : Array Value} {v : Value} {ws : List (List UInt8)} (h : WordsAt w cs v ws W) : w.heap.size < W.heap.size := h.box.lt

set_option maxRecDepth 100000 in
set_option maxHeartbeats 4000000 in
theorem show_Line_ok0 (x : Ans) (hv : x.Valid) (A : Option Addr) (c : Nat) (hc : x.list.length ≤ c) (w : World) (hr : Rd w A x.list.length (nums .i64 x.list)) (hE : Env w) (hdat : x.data = []) :
    Calls Tryd.prog 30 #[ansV x A c] w fun e w' => e = .returned (.tuple #[.string (Bs (lineA x)), .int .i64 0]) ∧ Below w.heap.size w w' := by
  have hjoin := line_prog x hv.data
  have hjl := lineA_len x hv
  rw [← hjoin] at hjl ⊢
  clear hjoin
  obtain ⟨why, n, m, data, list⟩ := x
  obtain ⟨⟨hwhy, hn, hm, hlist⟩, hw0, hw1, hd, hll⟩ := hv
  unfold ansV
  simp only [secN, secM, secS, secL] at *
  obtain ⟨h1, h2⟩ := hn
  obtain ⟨h3, h4⟩ := hm
  obtain ⟨hw2, hw3⟩ := hwhy
  have hem := Bs_isEmpty data
  have hR := sector_Right data
  have k1 : (⟨#[119, 104, 121]⟩ : ByteArray) = Bs wWhy := rfl
  have k2 : (⟨#[110]⟩ : ByteArray) = Bs wN := rfl
  have k3 : (⟨#[109]⟩ : ByteArray) = Bs wM := rfl
  have k4 : (⟨#[100, 97, 116, 97]⟩ : ByteArray) = Bs wData := rfl
  have k5 : (⟨#[108, 105, 115, 116]⟩ : ByteArray) = Bs wList := rfl
  have k6 : (⟨#[32]⟩ : ByteArray) = Bs [32] := rfl
  have hem' : (Bs data).toList.isEmpty = true := by rw [hem, hdat]; rfl
  clear hem hd
  have hem := hem'
  have hd := hdat
  clear hem' hdat
  obtain ⟨T, hT⟩ : ∃ T : List (List UInt8), T = [wWhy, itoa why] ++ ((if n = 0 then [] else [wN, itoa n]) ++ ((if m = 0 then [] else [wM, itoa m]) ++ ((if data = [] then [] else [wData, shortL data]) ++ (if list = [] then [] else wList :: list.map itoa)))) := ⟨_, rfl⟩
  rw [← hT] at hjl ⊢
  replace hT := Lib.hid hT
  · clear hR
    subst hd
    go_enter Tryd.func30, Tryd.ntmps30
    go_upto_if 38 with (first
      | (go_at_call 42; refine (itoa_any why hw2 hw3 _ (hE.below (balloc _ _))).mono ?_; rintro e w1 ⟨rfl, hb1⟩; have hz1 : w.heap.size < w1.heap.size := by (have := hb1.size; simp at this; omega)
         have hbl1 := (Blk.new w 57 #[.int .i64 why, .int .i64 n, .int .i64 m, .string (Bs []), .slice A list.length c]).below hb1 (by simp)
         have c1 : w1.cell? ⟨w.heap.size, 1, none⟩ = some (.int .i64 n) := hbl1.cell 1))
    have H0 : WordsAt w #[.int .i64 why, .int .i64 n, .int .i64 m, .string (Bs []), .slice A list.length c] (.slice (some ⟨w1.heap.size, 0, none⟩) 2 2) [wWhy, itoa why] (w1.alloc (.cells #[.string (Bs wWhy), .string (Bs (itoa why))] 9)) := by
      have hB1 := (balloc w (.cells #[.int .i64 why, .int .i64 n, .int .i64 m, .string (Bs []), .slice A list.length c] 57)).trans (hb1.mono (by simp))
      exact ⟨⟨rfl, .inr ⟨w1.heap.size, 2, _, rfl, hB1.size, heap_alloc_new _ _, Nat.le_refl _, by decide, rfl, rfl⟩⟩, (Blk.new _ _ _).below (hb1.alloc hb1.size _) (by simp), hB1.alloc hB1.size _⟩
    generalize (w1.alloc (.cells #[.string (Bs wWhy), .string (Bs (itoa why))] 9)) = W0 at H0 ⊢
    generalize (Value.slice (some ⟨w1.heap.size, 0, none⟩) 2 2) = v0 at H0 ⊢
    clear hb1
    go_cut [4] (fun s wc => ∃ ws : List (List UInt8), Hid (ws = [wWhy, itoa why] ++ (if n = 0 then [] else [wN, itoa n])) ∧ ws.length ≤ 4 ∧ WordsAt w #[.int .i64 why, .int .i64 n, .int .i64 m, .string (Bs []), .slice A list.length c] s ws wc)
    case first =>
      have c1 := H0.box.cell 1
      have hE0 := hE.below H0.below
      by_cases h0 : n = 0
      · subst h0
        go_wp2
        go_meet
        case rel => exact ⟨_, Lib.hid (by simp), by (try simp only [List.length_append, List.length_cons, List.length_nil]); omega, H0⟩
      · have ht : (n != 0) = true := by rw [bne_iff_ne]; exact h0
        replace h0 := Lib.hid h0
        go_wp2_with (first
          | (go_at_call 57; refine (formatInt_any n h1 h2 _ hE0).mono ?_; rintro e w2 ⟨rfl, hb2⟩; have H2 := H0.call hb2)
          | (at_builtin
             refine wpList_app2 (w := w) tStr rfl (.tmp 39) (.tmp 43) rfl rfl H2.own rfl rfl rfl ?_ ?_ H2.below ?_ ?_
             · (try simp only [List.length_cons, List.length_nil]); omega
             · (try simp only [List.length_cons, List.length_nil]); omega
             · exact H2.below.size
             intro v4 W4 hown4 hb4 hg4 _))
        go_meet
        case rel => exact ⟨_, Lib.hid (by rw [if_neg h0.out]), by (try simp only [List.length_append, List.length_cons, List.length_nil]); omega, H2.app (xs := [wN, itoa n]) rfl rfl hown4 hb4 hg4⟩
    case rest =>
      obtain ⟨ws1, ha1, hl1, H1⟩ := hcut
      clear H0 hz1 hbl1 c1
      have c2 := H1.box.cell 2
      go_upto_if 47 with fail
      clear c2
      go_cut [4] (fun s wc => ∃ ws : List (List UInt8), Hid (ws = ws1 ++ (if m = 0 then [] else [wM, itoa m])) ∧ ws.length ≤ 6 ∧ WordsAt w #[.int .i64 why, .int .i64 n, .int .i64 m, .string (Bs []), .slice A list.length c] s ws wc)
      case first =>
        have c1 := H1.box.cell 2
        have hE0 := hE.below H1.below
        by_cases h0 : m = 0
        · subst h0
          go_wp2
          go_meet
          case rel => exact ⟨_, Lib.hid (by simp), by (try simp only [List.length_append, List.length_cons, List.length_nil]); omega, H1⟩
        · have ht : (m != 0) = true := by rw [bne_iff_ne]; exact h0
          replace h0 := Lib.hid h0
          go_wp2_with (first
            | (go_at_call 57; refine (formatInt_any m h3 h4 _ hE0).mono ?_; rintro e w2 ⟨rfl, hb2⟩; have H2 := H1.call hb2)
            | (at_builtin
               refine wpList_app2 (w := w) tStr rfl (.tmp 48) (.tmp 52) rfl rfl H2.own rfl rfl rfl ?_ ?_ H2.below ?_ ?_
               · (try simp only [List.length_cons, List.length_nil]); omega
               · (try simp only [List.length_cons, List.length_nil]); omega
               · exact H2.below.size
               intro v4 W4 hown4 hb4 hg4 _))
          go_meet
          case rel => exact ⟨_, Lib.hid (by rw [if_neg h0.out]), by (try simp only [List.length_append, List.length_cons, List.length_nil]); omega, H2.app (xs := [wM, itoa m]) rfl rfl hown4 hb4 hg4⟩
      case rest =>
        obtain ⟨ws2, ha2, hl2, H2⟩ := hcut
        clear H1
        have c3 := H2.box.cell 3
        go_upto_if 56 with fail
        go_cut [4] (fun s wc => ∃ ws : List (List UInt8), Hid (ws = ws2 ++ (if ([] : List UInt8) = [] then [] else [wData, shortL []])) ∧ ws.length ≤ 8 ∧ WordsAt w #[.int .i64 why, .int .i64 n, .int .i64 m, .string (Bs []), .slice A list.length c] s ws wc)
        case first =>
          go_wp2
          go_meet
          case rel => exact ⟨_, Lib.hid (by simp), by omega, H2⟩
        case rest =>
          obtain ⟨ws3, ha3, hl3, H3⟩ := hcut
          clear H2 c3
          have c4 := H3.box.cell 4
          go_upto_if 66 with fail
          go_cut [4] (fun s wc => ∃ ws : List (List UInt8), Hid (ws = ws3 ++ (if list = [] then [] else [wList])) ∧ ws.length ≤ 9 ∧ WordsAt w #[.int .i64 why, .int .i64 n, .int .i64 m, .string (Bs []), .slice A list.length c] s ws wc)
          case first =>
            by_cases h0 : list = []
            · subst h0
              go_wp2
              go_meet
              case rel => exact ⟨_, Lib.hid (by simp), by omega, H3⟩
            · have hp : 0 < list.length := List.length_pos_iff.2 h0
              have ht : decide (0 < (list.length : Int)) = true := by simp; omega
              replace h0 := Lib.hid h0
              go_wp2_with (first
                | (at_builtin
                   refine wpList_app1 (w := w) tStr rfl (.tmp 67) (.tmp 68) rfl rfl H3.own rfl rfl ?_ ?_ H3.below ?_ ?_
                   · omega
                   · omega
                   · exact H3.below.size
                   intro v4 W4 hown4 hb4 hg4 _))
              go_meet
              case rel => exact ⟨_, Lib.hid (by rw [if_neg h0.out]), by (try simp only [List.length_append, List.length_cons, List.length_nil]); omega, H3.app (xs := [wList]) rfl rfl hown4 hb4 hg4⟩
          case rest =>
            obtain ⟨ws4, ha4, hl4, H4⟩ := hcut
            clear H3 c4
            have c4 := H4.box.cell 4
            go_wp2
            clear c4
            go_loopw [4, 73] (fun s i wr => ∃ k : Nat, k ≤ list.length ∧ i = .int .i64 k ∧ ∃ ws : List (List UInt8), Hid (ws = ws4 ++ (list.take k).map itoa) ∧ ws.length ≤ 9 + k ∧ WordsAt w #[.int .i64 why, .int .i64 n, .int .i64 m, .string (Bs []), .slice A list.length c] s ws wr) (fun _ i _ => list.length - (RowKit.intOf i).toNat)
            case atStart => exact ⟨0, by omega, rfl, ws4, Lib.hid (by simp), by omega, H4⟩
            case round =>
              obtain ⟨k, hk, rfl, ws, ha5, hl5, H5⟩ := hrel
              by_cases hlt : k < list.length
              · obtain ⟨b, o, u, rfl, hu, hcell⟩ := (hr.below H5.below).at_ hlt
                obtain ⟨q, hq, rfl⟩ := nums_at hu
                have hqr := hlist q (List.mem_of_getElem? hq)
                have hst : Hid (ws ++ [itoa q] = ws4 ++ (list.take (k + 1)).map itoa) := Lib.hid (by
                  rw [ha5.out, take_snoc_of hq, List.map_append]
                  simp)
                obtain ⟨hq0, hq1⟩ := hqr
                have hE5 := hE.below H5.below
                clear hq hu ha5 hlist
                go_wp2_with (first
                  | (go_at_call 42; refine (itoa_any q hq0 hq1 _ hE5).mono ?_; rintro e w2 ⟨rfl, hb2⟩; have H6 := H5.call hb2)
                  | (at_builtin
                     refine wpList_app1 (w := w) tStr rfl (.tmp 77) (.tmp 80) rfl rfl H6.own rfl rfl ?_ ?_ H6.below ?_ ?_
                     · omega
                     · omega
                     · exact H6.below.size
                     intro v4 W4 hown4 hb4 hg4 _))
                go_roundw
                case rel => exact ⟨k + 1, by omega, by go_num, _, hst, by rw [List.length_append, List.length_singleton]; omega, H6.app (xs := [itoa q]) rfl rfl hown4 hb4 hg4⟩
                case measure => simp [RowKit.intOf]; omega
              · obtain rfl : k = list.length := by omega
                rw [List.take_length] at ha5
                have hfin : Hid (ws = T) := Lib.hid (by
                  rw [ha5.out, ha4.out, ha3.out, ha2.out, ha1.out, hT.out]
                  cases list <;> simp)
                have hws := hfin.out
                subst hws
                obtain ⟨A5, c5, rfl, hcap⟩ := own_slice H5.own
                have hr5 := Rd.of_own H5.own
                have hj := fun W h => join_any A5 ws.length c5 ws [32] W h hcap (by omega) (by omega)
                have hB := H5.below
                clear hfin hT ha5 ha4 ha3 ha2 ha1
                go_wp2_with (go_at_call 43; refine (hj _ hr5).mono ?_; rintro e w2 ⟨rfl, hb2⟩)
                go_ret2
                exact ⟨rfl, hB.trans (hb2.mono hB.size)⟩

set_option maxRecDepth 100000 in
set_option maxHeartbeats 4000000 in
theorem show_Line_ok64 (x : Ans) (hv : x.Valid) (A : Option Addr) (c : Nat) (hc : x.list.length ≤ c) (w : World) (hr : Rd w A x.list.length (nums .i64 x.list)) (hE : Env w) (hdat : x.data.length = 64) :
    Calls Tryd.prog 30 #[ansV x A c] w fun e w' => e = .returned (.tuple #[.string (Bs (lineA x)), .int .i64 0]) ∧ Below w.heap.size w w' := by
  have hjoin := line_prog x hv.data
  have hjl := lineA_len x hv
  rw [← hjoin] at hjl ⊢
  clear hjoin
  obtain ⟨why, n, m, data, list⟩ := x
  obtain ⟨⟨hwhy, hn, hm, hlist⟩, hw0, hw1, hd, hll⟩ := hv
  unfold ansV
  simp only [secN, secM, secS, secL] at *
  obtain ⟨h1, h2⟩ := hn
  obtain ⟨h3, h4⟩ := hm
  obtain ⟨hw2, hw3⟩ := hwhy
  have hem := Bs_isEmpty data
  have hR := sector_Right data
  have k1 : (⟨#[119, 104, 121]⟩ : ByteArray) = Bs wWhy := rfl
  have k2 : (⟨#[110]⟩ : ByteArray) = Bs wN := rfl
  have k3 : (⟨#[109]⟩ : ByteArray) = Bs wM := rfl
  have k4 : (⟨#[100, 97, 116, 97]⟩ : ByteArray) = Bs wData := rfl
  have k5 : (⟨#[108, 105, 115, 116]⟩ : ByteArray) = Bs wList := rfl
  have k6 : (⟨#[32]⟩ : ByteArray) = Bs [32] := rfl
  have hem' : (Bs data).toList.isEmpty = false := by rw [hem]; cases data with | nil => simp at hdat | cons _ _ => rfl
  clear hem hd
  have hem := hem'
  have hd := hdat
  clear hem' hdat
  obtain ⟨T, hT⟩ : ∃ T : List (List UInt8), T = [wWhy, itoa why] ++ ((if n = 0 then [] else [wN, itoa n]) ++ ((if m = 0 then [] else [wM, itoa m]) ++ ((if data = [] then [] else [wData, shortL data]) ++ (if list = [] then [] else wList :: list.map itoa)))) := ⟨_, rfl⟩
  rw [← hT] at hjl ⊢
  replace hT := Lib.hid hT
  · simp only [hd, decide_true] at hR
    have hdne : data ≠ [] := fun e => by rw [e] at hd; simp at hd
    have hS := fun W hE => sector_Short data W hE
    replace hdne := Lib.hid hdne
    clear hd
    go_enter Tryd.func30, Tryd.ntmps30
    go_upto_if 38 with (first
      | (go_at_call 42; refine (itoa_any why hw2 hw3 _ (hE.below (balloc _ _))).mono ?_; rintro e w1 ⟨rfl, hb1⟩; have hz1 : w.heap.size < w1.heap.size := by (have := hb1.size; simp at this; omega)
         have hbl1 := (Blk.new w 57 #[.int .i64 why, .int .i64 n, .int .i64 m, .string (Bs data), .slice A list.length c]).below hb1 (by simp)
         have c1 : w1.cell? ⟨w.heap.size, 1, none⟩ = some (.int .i64 n) := hbl1.cell 1)
      | (go_at_call 48; refine (hR _).mono ?_; rintro e w0 ⟨rfl, rfl⟩))
    have H0 : WordsAt w #[.int .i64 why, .int .i64 n, .int .i64 m, .string (Bs data), .slice A list.length c] (.slice (some ⟨w1.heap.size, 0, none⟩) 2 2) [wWhy, itoa why] (w1.alloc (.cells #[.string (Bs wWhy), .string (Bs (itoa why))] 9)) := by
      have hB1 := (balloc w (.cells #[.int .i64 why, .int .i64 n, .int .i64 m, .string (Bs data), .slice A list.length c] 57)).trans (hb1.mono (by simp))
      exact ⟨⟨rfl, .inr ⟨w1.heap.size, 2, _, rfl, hB1.size, heap_alloc_new _ _, Nat.le_refl _, by decide, rfl, rfl⟩⟩, (Blk.new _ _ _).below (hb1.alloc hb1.size _) (by simp), hB1.alloc hB1.size _⟩
    generalize (w1.alloc (.cells #[.string (Bs wWhy), .string (Bs (itoa why))] 9)) = W0 at H0 ⊢
    generalize (Value.slice (some ⟨w1.heap.size, 0, none⟩) 2 2) = v0 at H0 ⊢
    clear hb1
    go_cut [4] (fun s wc => ∃ ws : List (List UInt8), Hid (ws = [wWhy, itoa why] ++ (if n = 0 then [] else [wN, itoa n])) ∧ ws.length ≤ 4 ∧ WordsAt w #[.int .i64 why, .int .i64 n, .int .i64 m, .string (Bs data), .slice A list.length c] s ws wc)
    case first =>
      have c1 := H0.box.cell 1
      have hE0 := hE.below H0.below
      by_cases h0 : n = 0
      · subst h0
        go_wp2
        go_meet
        case rel => exact ⟨_, Lib.hid (by simp), by (try simp only [List.length_append, List.length_cons, List.length_nil]); omega, H0⟩
      · have ht : (n != 0) = true := by rw [bne_iff_ne]; exact h0
        replace h0 := Lib.hid h0
        go_wp2_with (first
          | (go_at_call 57; refine (formatInt_any n h1 h2 _ hE0).mono ?_; rintro e w2 ⟨rfl, hb2⟩; have H2 := H0.call hb2)
          | (at_builtin
             refine wpList_app2 (w := w) tStr rfl (.tmp 39) (.tmp 43) rfl rfl H2.own rfl rfl rfl ?_ ?_ H2.below ?_ ?_
             · (try simp only [List.length_cons, List.length_nil]); omega
             · (try simp only [List.length_cons, List.length_nil]); omega
             · exact H2.below.size
             intro v4 W4 hown4 hb4 hg4 _))
        go_meet
        case rel => exact ⟨_, Lib.hid (by rw [if_neg h0.out]), by (try simp only [List.length_append, List.length_cons, List.length_nil]); omega, H2.app (xs := [wN, itoa n]) rfl rfl hown4 hb4 hg4⟩
    case rest =>
      obtain ⟨ws1, ha1, hl1, H1⟩ := hcut
      clear H0 hz1 hbl1 c1
      have c2 := H1.box.cell 2
      go_upto_if 47 with fail
      clear c2
      go_cut [4] (fun s wc => ∃ ws : List (List UInt8), Hid (ws = ws1 ++ (if m = 0 then [] else [wM, itoa m])) ∧ ws.length ≤ 6 ∧ WordsAt w #[.int .i64 why, .int .i64 n, .int .i64 m, .string (Bs data), .slice A list.length c] s ws wc)
      case first =>
        have c1 := H1.box.cell 2
        have hE0 := hE.below H1.below
        by_cases h0 : m = 0
        · subst h0
          go_wp2
          go_meet
          case rel => exact ⟨_, Lib.hid (by simp), by (try simp only [List.length_append, List.length_cons, List.length_nil]); omega, H1⟩
        · have ht : (m != 0) = true := by rw [bne_iff_ne]; exact h0
          replace h0 := Lib.hid h0
          go_wp2_with (first
            | (go_at_call 57; refine (formatInt_any m h3 h4 _ hE0).mono ?_; rintro e w2 ⟨rfl, hb2⟩; have H2 := H1.call hb2)
            | (at_builtin
               refine wpList_app2 (w := w) tStr rfl (.tmp 48) (.tmp 52) rfl rfl H2.own rfl rfl rfl ?_ ?_ H2.below ?_ ?_
               · (try simp only [List.length_cons, List.length_nil]); omega
               · (try simp only [List.length_cons, List.length_nil]); omega
               · exact H2.below.size
               intro v4 W4 hown4 hb4 hg4 _))
          go_meet
          case rel => exact ⟨_, Lib.hid (by rw [if_neg h0.out]), by (try simp only [List.length_append, List.length_cons, List.length_nil]); omega, H2.app (xs := [wM, itoa m]) rfl rfl hown4 hb4 hg4⟩
      case rest =>
        obtain ⟨ws2, ha2, hl2, H2⟩ := hcut
        clear H1
        have c3 := H2.box.cell 3
        go_upto_if 56 with fail
        go_cut [4] (fun s wc => ∃ ws : List (List UInt8), Hid (ws = ws2 ++ (if data = [] then [] else [wData, shortL data])) ∧ ws.length ≤ 8 ∧ WordsAt w #[.int .i64 why, .int .i64 n, .int .i64 m, .string (Bs data), .slice A list.length c] s ws wc)
        case first =>
          have hE0 := hE.below H2.below
          go_wp2_with (first
            | (go_at_call 24; refine (hS _ hE0).mono ?_; rintro e w2 ⟨rfl, hb2⟩; have H3 := H2.call hb2)
            | (at_builtin
               refine wpList_app2 (w := w) tStr rfl (.tmp 57) (.tmp 61) rfl rfl H3.own rfl rfl rfl ?_ ?_ H3.below ?_ ?_
               · (try simp only [List.length_cons, List.length_nil]); omega
               · (try simp only [List.length_cons, List.length_nil]); omega
               · exact H3.below.size
               intro v4 W4 hown4 hb4 hg4 _))
          go_meet
          case rel => exact ⟨_, Lib.hid (by rw [if_neg hdne.out]), by (try simp only [List.length_append, List.length_cons, List.length_nil]); omega, H3.app (xs := [wData, shortL data]) rfl rfl hown4 hb4 hg4⟩
        case rest =>
          obtain ⟨ws3, ha3, hl3, H3⟩ := hcut
          clear H2 c3
          have c4 := H3.box.cell 4
          go_upto_if 66 with fail
          go_cut [4] (fun s wc => ∃ ws : List (List UInt8), Hid (ws = ws3 ++ (if list = [] then [] else [wList])) ∧ ws.length ≤ 9 ∧ WordsAt w #[.int .i64 why, .int .i64 n, .int .i64 m, .string (Bs data), .slice A list.length c] s ws wc)
          case first =>
            by_cases h0 : list = []
            · subst h0
              go_wp2
              go_meet
              case rel => exact ⟨_, Lib.hid (by simp), by omega, H3⟩
            · have hp : 0 < list.length := List.length_pos_iff.2 h0
              have ht : decide (0 < (list.length : Int)) = true := by simp; omega
              replace h0 := Lib.hid h0
              go_wp2_with (first
                | (at_builtin
                   refine wpList_app1 (w := w) tStr rfl (.tmp 67) (.tmp 68) rfl rfl H3.own rfl rfl ?_ ?_ H3.below ?_ ?_
                   · omega
                   · omega
                   · exact H3.below.size
                   intro v4 W4 hown4 hb4 hg4 _))
              go_meet
              case rel => exact ⟨_, Lib.hid (by rw [if_neg h0.out]), by (try simp only [List.length_append, List.length_cons, List.length_nil]); omega, H3.app (xs := [wList]) rfl rfl hown4 hb4 hg4⟩
          case rest =>
            obtain ⟨ws4, ha4, hl4, H4⟩ := hcut
            clear H3 c4
            have c4 := H4.box.cell 4
            go_wp2
            clear c4
            go_loopw [4, 73] (fun s i wr => ∃ k : Nat, k ≤ list.length ∧ i = .int .i64 k ∧ ∃ ws : List (List UInt8), Hid (ws = ws4 ++ (list.take k).map itoa) ∧ ws.length ≤ 9 + k ∧ WordsAt w #[.int .i64 why, .int .i64 n, .int .i64 m, .string (Bs data), .slice A list.length c] s ws wr) (fun _ i _ => list.length - (RowKit.intOf i).toNat)
            case atStart => exact ⟨0, by omega, rfl, ws4, Lib.hid (by simp), by omega, H4⟩
            case round =>
              obtain ⟨k, hk, rfl, ws, ha5, hl5, H5⟩ := hrel
              by_cases hlt : k < list.length
              · obtain ⟨b, o, u, rfl, hu, hcell⟩ := (hr.below H5.below).at_ hlt
                obtain ⟨q, hq, rfl⟩ := nums_at hu
                have hqr := hlist q (List.mem_of_getElem? hq)
                have hst : Hid (ws ++ [itoa q] = ws4 ++ (list.take (k + 1)).map itoa) := Lib.hid (by
                  rw [ha5.out, take_snoc_of hq, List.map_append]
                  simp)
                obtain ⟨hq0, hq1⟩ := hqr
                have hE5 := hE.below H5.below
                clear hq hu ha5 hlist
                go_wp2_with (first
                  | (go_at_call 42; refine (itoa_any q hq0 hq1 _ hE5).mono ?_; rintro e w2 ⟨rfl, hb2⟩; have H6 := H5.call hb2)
                  | (at_builtin
                     refine wpList_app1 (w := w) tStr rfl (.tmp 77) (.tmp 80) rfl rfl H6.own rfl rfl ?_ ?_ H6.below ?_ ?_
                     · omega
                     · omega
                     · exact H6.below.size
                     intro v4 W4 hown4 hb4 hg4 _))
                go_roundw
                case rel => exact ⟨k + 1, by omega, by go_num, _, hst, by rw [List.length_append, List.length_singleton]; omega, H6.app (xs := [itoa q]) rfl rfl hown4 hb4 hg4⟩
                case measure => simp [RowKit.intOf]; omega
              · obtain rfl : k = list.length := by omega
                rw [List.take_length] at ha5
                have hfin : Hid (ws = T) := Lib.hid (by
                  rw [ha5.out, ha4.out, ha3.out, ha2.out, ha1.out, hT.out]
                  cases list <;> simp)
                have hws := hfin.out
                subst hws
                obtain ⟨A5, c5, rfl, hcap⟩ := own_slice H5.own
                have hr5 := Rd.of_own H5.own
                have hj := fun W h => join_any A5 ws.length c5 ws [32] W h hcap (by omega) (by omega)
                have hB := H5.below
                clear hfin hT ha5 ha4 ha3 ha2 ha1
                go_wp2_with (go_at_call 43; refine (hj _ hr5).mono ?_; rintro e w2 ⟨rfl, hb2⟩)
                go_ret2
                exact ⟨rfl, hB.trans (hb2.mono hB.size)⟩

theorem show_Line_ok (x : Ans) (hv : x.Valid) (A : Option Addr) (c : Nat) (hc : x.list.length ≤ c) (w : World) (hr : Rd w A x.list.length (nums .i64 x.list)) (hE : Env w) :
    Calls Tryd.prog 30 #[ansV x A c] w fun e w' => e = .returned (.tuple #[.string (Bs (lineA x)), .int .i64 0]) ∧ Below w.heap.size w w' := by
  rcases hv.data with h | h
  · exact show_Line_ok0 x hv A c hc w hr hE h
  · exact show_Line_ok64 x hv A c hc w hr hE h
end Go.Proofs.YtmakpilfjopmeaaDoor
