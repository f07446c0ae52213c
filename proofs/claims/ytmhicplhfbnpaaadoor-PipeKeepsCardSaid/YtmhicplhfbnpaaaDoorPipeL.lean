/-
  gimballaw12: asks, sameRow, row, filled.
-/
import Derived.Test.YtmhicplhfbnpaaaDoorPipeD
import Derived.Test.YtmhicplhfbnpaaaDoorBring
import Derived.Test.YtmhicplhfbnpaaaDoorLaw
import Derived.Laws.BytesString
namespace Go.Proofs.YtmhicplhfbnpaaaDoor
set_option linter.unusedVariables false
set_option linter.unusedSimpArgs false
open Go.RowKit
variable {F G : Nat → Prop}

set_option maxHeartbeats 2000000 in
theorem lsamerow_any (u v : Value) (xs ys : List EV) (w : World) (h : EntsAt F w u xs) (h' : EntsAt G w v ys) (hn : xs.length ≤ 1000000000) (hn' : ys.length ≤ 1000000000) (hL : ∀ x ∈ xs, x.e.lines.length ≤ 5864062014634) (hL' : ∀ x ∈ ys, x.e.lines.length ≤ 5864062014634) :
    Calls Tryd.prog 27 #[u, v] w fun e w' => e = .returned (.bool (decide (xs.map EV.e = ys.map EV.e))) ∧ Fr none' w w' := by
  obtain ⟨a, c, rfl⟩ := h.cells
  obtain ⟨a', c', rfl⟩ := h'.cells
  have H := Lib.hid h
  have H' := Lib.hid h'
  have hLh := Lib.hid hL
  have hLh' := Lib.hid hL'
  clear h h' hL hL'
  by_cases hne : xs.length = ys.length
  · obtain ⟨len, hlen⟩ : ∃ len, len = xs.length := ⟨_, rfl⟩
    have hA := Lib.hid hlen
    have hB := Lib.hid (hlen.trans hne)
    rw [← hlen] at hn H ⊢
    rw [← hne, ← hlen] at H' ⊢
    clear hlen hne hn'
    go_enter Tryd.func27, Tryd.ntmps27
    go_wp2_with fail
    go_loopw [5] (fun i wr => ∃ k : Nat, i = .int .i64 k ∧ k ≤ len ∧ (∀ j, j < k → (xs.map EV.e)[j]? = (ys.map EV.e)[j]?) ∧ Fr none' w wr) (fun i _ => len - (intOf i).toNat)
    case atStart => exact ⟨0, rfl, Nat.zero_le _, fun j hj => absurd hj (by omega), Fr.refl _ _⟩
    case round =>
      obtain ⟨k, rfl, hk, hj, hf⟩ := hrel
      have hjh := Lib.hid hj
      have hfh := Lib.hid hf
      clear hj
      by_cases hlt : k < len
      · have hlt1 : k < xs.length := by rw [← hA.out]; exact hlt
        have hlt2 : k < ys.length := by rw [← hB.out]; exact hlt
        have T1 := H.out.keep0 hf
        have T2 := H'.out.keep0 hf
        rw [hA.out] at T1
        rw [hB.out] at T2
        obtain ⟨b, o, rfl, hb, -, E1⟩ := T1.elem k hlt1
        obtain ⟨b', o', rfl, hb', -, E2⟩ := T2.elem k hlt2
        have l1 := T1.lines _ (List.getElem_mem hlt1)
        have l2 := T2.lines _ (List.getElem_mem hlt2)
        have n1 := hLh.out _ (List.getElem_mem hlt1)
        have n2 := hLh'.out _ (List.getElem_mem hlt2)
        have e1 : (xs.map EV.e)[k]? = some xs[k].e := by rw [List.getElem?_map, List.getElem?_eq_getElem hlt1]; rfl
        have e2 : (ys.map EV.e)[k]? = some ys[k].e := by rw [List.getElem?_map, List.getElem?_eq_getElem hlt2]; rfl
        obtain ⟨x, hx⟩ : ∃ x, x = xs[k] := ⟨_, rfl⟩
        obtain ⟨y, hy⟩ : ∃ y, y = ys[k] := ⟨_, rfl⟩
        rw [← hx] at E1 l1 n1 e1
        rw [← hy] at E2 l2 n2 e2
        obtain ⟨x, xv⟩ := x
        obtain ⟨y, yv⟩ := y
        obtain ⟨xa, xc, hxv⟩ := l1.cells
        obtain ⟨ya, yc, hyv⟩ := l2.cells
        dsimp only at hxv hyv l1 l2 n1 n2 e1 e2
        subst hxv
        subst hyv
        have e1' := Lib.hid e1
        have e2' := Lib.hid e2
        have E1d := Lib.hid (E1.keep hb (Fr.refl none' wr).drew)
        have E2d := Lib.hid (E2.keep hb' (Fr.refl none' wr).drew)
        have l1h := Lib.hid (l1.keep0 (Fr.refl none' wr).drew)
        have l2h := Lib.hid (l2.keep0 (Fr.refl none' wr).drew)
        have hbh := Lib.hid hb
        have hbh' := Lib.hid hb'
        clear T1 T2 hx hy e1 e2 hf E1 E2 l1 l2 hlt1 hlt2
        go_wp2_with fail
        have Z0 := And.intro E1d.out E2d.out
        go_region_held3 (fun w' => w'.cell? ⟨b, o + k * 7, none⟩ = some (.int .i64 x.client) ∧ w'.cell? ⟨b, o + k * 7 + 1, none⟩ = some (.int .i64 x.num) ∧ w'.cell? ⟨b, o + k * 7 + 2, none⟩ = some (.int .i64 x.kind) ∧ w'.cell? ⟨b, o + k * 7 + 3, none⟩ = some (.string x.sku) ∧ w'.cell? ⟨b, o + k * 7 + 4, none⟩ = some (.int .i64 x.order) ∧ w'.cell? ⟨b, o + k * 7 + 5, none⟩ = some (.int .i64 x.n) ∧ w'.cell? ⟨b, o + k * 7 + 6, none⟩ = some (.slice xa x.lines.length xc) ∧ w'.cell? ⟨b', o' + k * 7, none⟩ = some (.int .i64 y.client) ∧ w'.cell? ⟨b', o' + k * 7 + 1, none⟩ = some (.int .i64 y.num) ∧ w'.cell? ⟨b', o' + k * 7 + 2, none⟩ = some (.int .i64 y.kind) ∧ w'.cell? ⟨b', o' + k * 7 + 3, none⟩ = some (.string y.sku) ∧ w'.cell? ⟨b', o' + k * 7 + 4, none⟩ = some (.int .i64 y.order) ∧ w'.cell? ⟨b', o' + k * 7 + 5, none⟩ = some (.int .i64 y.n) ∧ w'.cell? ⟨b', o' + k * 7 + 6, none⟩ = some (.slice ya y.lines.length yc))
          (first | exact ⟨Z0.1.c0, Z0.1.c1, Z0.1.c2, Z0.1.c3, Z0.1.c4, Z0.1.c5, Z0.1.c6, Z0.2.c0, Z0.2.c1, Z0.2.c2, Z0.2.c3, Z0.2.c4, Z0.2.c5, Z0.2.c6⟩ | exact ⟨Z1.1.c0, Z1.1.c1, Z1.1.c2, Z1.1.c3, Z1.1.c4, Z1.1.c5, Z1.1.c6, Z1.2.c0, Z1.2.c1, Z1.2.c2, Z1.2.c3, Z1.2.c4, Z1.2.c5, Z1.2.c6⟩)
          (first | (go_at_call 32; refine (esame_any _ _ _ _ _ l1h.out l2h.out n1 n2).mono ?_; rintro e w1 ⟨rfl, f1⟩; have Z1 := And.intro (E1d.out.keep hbh.out f1) (E2d.out.keep hbh'.out f1)))
        have f1h := Lib.hid f1
        clear Z0 Z1 f1
        by_cases hxy : x = y
        · rw [decide_eq_true hxy]
          have hxyh := Lib.hid hxy
          clear hxy
          go_wp2_with fail
          go_roundw
          case rel => exact ⟨k + 1, by go_num, by omega, fun j hj => by
            rcases Nat.lt_or_ge j k with h | h
            · exact hjh.out j h
            · obtain rfl : j = k := by omega
              rw [e1'.out, e2'.out, hxyh.out], (hfh.out.drew).trans f1h.out (fun _ _ h => h)⟩
          case measure => simp [intOf]; omega
        · rw [decide_eq_false hxy]
          have hxyh := Lib.hid hxy
          clear hxy
          go_wp2_with fail
          go_ret
          exact ⟨ret_bool (decide_eq_false (fun e => hxyh.out (by rw [e] at e1'; have := e1'.out.symm.trans e2'.out; exact Option.some.inj this))).symm, (hfh.out.drew).trans f1h.out (fun _ _ h => h)⟩
      · go_wp2_with fail
        go_ret
        exact ⟨ret_bool (decide_eq_true (eq_of_get (n := len) (by rw [List.length_map]; exact hA.out.symm) (by rw [List.length_map]; exact hB.out.symm) (fun j hj => hjh.out j (by omega)))).symm, hf⟩
  · have e : decide (xs.map EV.e = ys.map EV.e) = false := decide_eq_false (fun e => hne (by have := congrArg List.length e; simpa using this))
    have hne' : ((xs.length : Int) != (ys.length : Int)) = true := by simp; omega
    have e' := Lib.hid e
    clear hne e
    go_enter Tryd.func27, Tryd.ntmps27
    go_wp2_with fail
    go_ret
    exact ⟨ret_bool e'.out.symm, Fr.refl _ _⟩

/-- An entry that may be, out of a number. -/
def askSku (n : Int) : ByteArray := ⟨#[115]⟩ ++ ⟨#[97 + UInt8.ofNat (n % 26).toNat]⟩
def askE (n : Int) : Ent := ⟨n % 8, 1 + n % 1000, 8, askSku n, 0, 0, []⟩

set_option maxHeartbeats 1000000 in
theorem asks_any (n : Int) (w : World) :
    Calls Tryd.prog 23 #[.int .i64 n] w fun e w' => e = .returned (.agg #[.int .i64 (askE n).client, .int .i64 (askE n).num, .int .i64 (askE n).kind, .string (askE n).sku, .int .i64 (askE n).order, .int .i64 (askE n).n, .slice none 0 0]) ∧ Fr none' w w' := by
  go_enter Tryd.func23, Tryd.ntmps23
  go_wp2_with fail
  refine (bring_ex _ _ _ (by omega) (by omega)).mono ?_
  rintro e w' ⟨a, rfl, a0, a1, ha, rfl⟩
  go_wp2_with fail
  refine (bring_ex _ _ _ (by omega) (by omega)).mono ?_
  rintro e w' ⟨b, rfl, b0, b1, hb, rfl⟩
  go_wp2_with fail
  refine (bring_ex _ _ _ (by omega) (by omega)).mono ?_
  rintro e w' ⟨c, rfl, c0, c1, hc, rfl⟩
  obtain ⟨k, rfl⟩ := Int.eq_ofNat_of_zero_le c0
  have hk : k < 26 := by omega
  have hB : Bytes ((w.alloc (.cells #[.int .i64 0, .int .i64 0, .int .i64 0, .string ⟨#[]⟩, .int .i64 0, .int .i64 0, .slice none 0 0] 34)).alloc (.cells #[.int .u8 (97 + (k : Int))] 5)) (.slice (some ⟨w.heap.size + 1, 0, none⟩) 1 1) [UInt8.ofNat (97 + k)] :=
    ⟨_, _, rfl, Nat.le_refl _, rfl, (fun h => by cases h), fun _ => ⟨_, _, rfl, (fun _ => by simp), fun j u hj => cell_of_blk (blk_alloc_new (by simp)) (by
      have e : ((UInt8.ofNat (97 + k)).toNat : Int) = 97 + (k : Int) := by
        have : (UInt8.ofNat (97 + k)).toNat = 97 + k := by simp; omega
        omega
      have e2 : byt [UInt8.ofNat (97 + k)] = [.int .u8 (97 + (k : Int))] := by simp only [byt, List.map_cons, List.map_nil, e]
      rw [e2] at hj
      rw [Nat.zero_add]; simpa using hj)⟩⟩
  have hrun := run_bytes_str (P := Tryd.prog) 74 9 5 hB Tryd.underlying74 Tryd.underlying5 Tryd.underlying9
  have hBh := Lib.hid hB
  clear hB
  go_wp2_with fail
  have e1 : (askE n).client = a := ha.out.symm
  have e2 : (askE n).num = 1 + b := by unfold askE; rw [hb.out]
  have e3 : (askE n).sku = ⟨#[115]⟩ ++ ⟨#[97 + UInt8.ofNat k]⟩ := by unfold askE askSku; rw [← hc.out]; rfl
  rw [e1, e2, e3]
  exact bodyPost_ret (v := .agg #[.int .i64 a, .int .i64 (1 + b), .int .i64 8, .string (⟨#[115]⟩ ++ ⟨#[97 + UInt8.ofNat k]⟩), .int .i64 0, .int .i64 0, .slice none 0 0]) (by simp [results, Tryd.results23, go_sem]) rfl ⟨rfl, ((Fr.refl _ _).alloc _).alloc _⟩

theorem askSku_data (n : Int) : (askSku n).data.toList = [115, 97 + UInt8.ofNat (n % 26).toNat] := by
  unfold askSku
  simp
theorem askSku_size (n : Int) : (askSku n).size = 2 := by
  have := congrArg List.length (askSku_data n)
  simpa using this
theorem askSku_ok (n : Int) : okName (askSku n) = true := by
  unfold okName
  rw [askSku_size]
  unfold okAll
  rw [askSku_data]
  have h : (n % 26).toNat < 26 := by omega
  generalize (n % 26).toNat = k at h
  have h2 : ∀ k, k < 26 → okByte (97 + UInt8.ofNat k : UInt8).toNat = true := by decide
  simp only [List.all_cons, List.all_nil, h2 k h]
  rfl
theorem askE_wf (n : Int) : (askE n).wf := by
  have h1 : 0 ≤ n % 8 ∧ n % 8 < 8 := by omega
  have h2 : 0 ≤ n % 1000 ∧ n % 1000 < 1000 := by omega
  exact ⟨⟨by show _ ≤ n % 8; omega, by show n % 8 ≤ _; omega⟩, ⟨by show _ ≤ 1 + n % 1000; omega, by show 1 + n % 1000 ≤ _; omega⟩, ⟨by show (-9223372036854775808 : Int) ≤ 8; omega, by show (8 : Int) ≤ _; omega⟩, ⟨by show (-9223372036854775808 : Int) ≤ 0; omega, by show (0 : Int) ≤ _; omega⟩, ⟨by show (-9223372036854775808 : Int) ≤ 0; omega, by show (0 : Int) ≤ _; omega⟩, by show (askSku n).size ≤ _; rw [askSku_size]; omega, (fun l hl => by cases hl), (show (0 : Nat) ≤ _ by omega)⟩
theorem askE_ok (n : Int) : okEnt (askE n) = true := by
  have h1 : 0 ≤ n % 8 ∧ n % 8 < 8 := by omega
  have h2 : 0 ≤ n % 1000 ∧ n % 1000 < 1000 := by omega
  have e : okOp (askE n) = true := by
    unfold okOp
    show (((((decide ((1 : Int) ≤ 8) && decide ((8 : Int) ≤ 9)) && mayB (hasK 8 1) (okName (askSku n)) (askSku n).toList.isEmpty) && mayB (hasK 8 2) (okQty 0) ((0 : Int) == 0)) && mayB (hasK 8 4) (okQty 0 || (hasK 8 8 && okQty (-0))) ((0 : Int) == 0)) && mayB (hasK 8 16) (okLines []) (((0 : Nat) : Int) == 0)) = true
    rw [askSku_ok]
    generalize (askSku n).toList.isEmpty = b
    cases b <;> decide +kernel
  unfold okEnt
  rw [e]
  show ((((decide (0 ≤ n % 8) && decide (n % 8 < 8)) && decide (1 ≤ 1 + n % 1000)) && decide (1 + n % 1000 ≤ 2147483647)) && true) = true
  rw [decide_eq_true h1.1, decide_eq_true h1.2, decide_eq_true (by omega : 1 ≤ 1 + n % 1000), decide_eq_true (by omega : 1 + n % 1000 ≤ 2147483647)]
  rfl

theorem IntsAt.keep0 {w w' : World} {a : Option Addr} {len : Nat} {f : Nat → Int} (h : IntsAt w a len f) (g : Fr none' w w') : IntsAt w' a len f := fun k hk => by
  obtain ⟨b, off, h1, h2, h3, h4⟩ := h k hk
  exact ⟨b, off, h1, Nat.lt_of_lt_of_le h2 g.size, fun j hj => (g.cell (p := ⟨b, off + j, none⟩) h2 id).trans (h3 j hj), h4⟩

/-- The entries that a row of numbers makes. -/
def askRow (f : Nat → Int) (n : Nat) : List Ent := (List.range n).map fun i => askE (f i)
theorem askRow_succ (f : Nat → Int) (n : Nat) : askRow f (n + 1) = askRow f n ++ [askE (f n)] := by unfold askRow; rw [List.range_succ, List.map_append]; rfl
theorem askRow_length (f : Nat → Int) (n : Nat) : (askRow f n).length = n := by unfold askRow; simp

set_option maxHeartbeats 2000000 in
theorem lrow_any (a : Option Addr) (len cap : Nat) (f : Nat → Int) (most : Nat) (w : World) (h : IntsAt w a len f) (hlen : len ≤ 9223372036854775807) (hm : most ≤ 1000) :
    Calls Tryd.prog 30 #[.slice a len cap, .int .i64 (most : Int)] w fun e w' => ∃ v ys, e = .returned v ∧ ys.map EV.e = askRow f (min len most) ∧ OwnEnts w.heap.size w' v ys ∧ Fr none' w w' := by
  obtain ⟨i0, hi, hz0, hz1, hz2⟩ := info_parts Tryd.infoEnt
  have H := Lib.hid h
  clear h
  go_enter Tryd.func30, Tryd.ntmps30
  go_wp2_with fail
  go_loopw [5, 6] (fun s i wr => ∃ k : Nat, i = .int .i64 k ∧ k ≤ min len most ∧ ∃ ys : List EV, ys.length = k ∧ ys.map EV.e = askRow f k ∧ OwnEnts w.heap.size wr s ys ∧ Fr none' w wr) (fun _ i _ => min len most - (intOf i).toNat)
  case atStart => exact ⟨0, rfl, Nat.zero_le _, [], rfl, rfl, OwnEnts.nil _ _, Fr.refl _ _⟩
  case round =>
    obtain ⟨k, rfl, hk, ys, hyl, hye, ho, hf⟩ := hrel
    have hfh := Lib.hid hf
    have hoh := Lib.hid ho
    have hyh := Lib.hid hye
    obtain ⟨sa, sc, rfl⟩ := ho.ents.cells
    rw [hyl] at hoh ⊢
    have hyl' := Lib.hid hyl
    by_cases hlt : k < len ∧ k < most
    · obtain ⟨hl1, hl2⟩ := hlt
      obtain ⟨b, off, rfl, hb, hc, hbd⟩ := (H.out.keep0 hf) k hl1
      have c0 := hc k hl1
      have hcl : off + k = off + k := rfl
      clear hf ho hye hyl hc hbd hcl
      go_wp2_with fail
      refine (asks_any _ _).mono ?_
      rintro e w1 ⟨rfl, f1⟩
      have fa : Fr none' w1 (w1.alloc (.cells #[.int .i64 (askE (f k)).client, .int .i64 (askE (f k)).num, .int .i64 (askE (f k)).kind, .string (askE (f k)).sku, .int .i64 (askE (f k)).order, .int .i64 (askE (f k)).n, .slice none 0 0] 34)) := (Fr.refl _ _).alloc _
      have hown := hoh.out.keep0 (f1.trans fa (fun _ _ h => h))
      have hyx := ent_new w1 ⟨askE (f k), .slice none 0 0⟩ _ rfl
      have F2 := Lib.hid ((hfh.out.trans f1 (fun _ _ h => h)).trans fa (fun _ _ h => h))
      have hsz := Nat.le_trans hfh.out.size f1.size
      have hownh := Lib.hid hown
      have hyxh := Lib.hid hyx
      have hrow := hown.own
      rw [hyl'.out] at hrow
      have hrowh := Lib.hid hrow
      clear c0 fa hown hyx hrow f1
      go_wp2_with (at_builtin; refine wpList_app_own2 rfl (.tmp 18) (.tmp 24) 35 rfl w.heap.size 34 i0 _ 7 80 Tryd.underlying35 hi hz0 hz1 hz2 rfl (by decide) _ k _ rfl hrowh.out _ 1 _ rfl hyxh.out (EV.one _ ⟨_, _, _, rfl⟩) (by omega) (by omega) (by simp; omega) ?_; intro v2 w2 ho2 hg2 hb2)
      have hpush := (hownh.out.push (x := ⟨askE (f k), .slice none 0 0⟩) (LinesAt.nil _ _) (by simp; omega) (by rw [hyl'.out]; exact ho2) hg2 hb2)
      have F3 : Fr none' w w2 := F2.out.grown hg2 (fun b hb => .inl (ownsRow_block hrowh.out b hb).1)
      have hph := Lib.hid hpush
      have F3h := Lib.hid F3
      clear ho2 hg2 hb2 hpush F3
      go_roundw
      case rel => exact ⟨k + 1, by go_num, by omega, _, by rw [List.length_append, hyl'.out]; rfl, by rw [List.map_append, hyh.out, askRow_succ]; rfl, hph.out, F3h.out⟩
      case measure => simp [intOf]; omega
    · have hke : k = min len most := by omega
      have hfin : Hid (∃ (v : Value) (ys : List EV), Value.slice sa k sc = v ∧ ys.map EV.e = askRow f (min len most) ∧ OwnEnts w.heap.size wr v ys ∧ Fr none' w wr) := Lib.hid ⟨_, ys, rfl, by rw [← hke]; exact hye, by rw [← hyl]; rw [← hyl] at hoh; exact hoh.out, hf⟩
      rcases (show ¬ k < len ∨ (k < len ∧ ¬ k < most) by omega) with h0 | ⟨h0, h1⟩
      · clear hke hlt
        go_wp2_with fail
        go_ret
        obtain ⟨v, ys, rfl, h1, h2, h3⟩ := hfin.out
        exact ⟨_, ys, rfl, h1, h2, h3⟩
      · clear hke hlt
        go_wp2_with fail
        go_ret
        obtain ⟨v, ys, rfl, h1, h2, h3⟩ := hfin.out
        exact ⟨_, ys, rfl, h1, h2, h3⟩

set_option maxHeartbeats 4000000 in
theorem filled_any (base : Int) (v : Value) (xs : List EV) (w : World) (h : EntsAt G w v xs) (hn : xs.length ≤ 24) (hx : ∀ x ∈ xs, x.e.wf ∧ okEnt x.e = true) (hk : KindsAt w) (hb : 0 ≤ base ∧ base ≤ 9007199254740991) :
    Calls Tryd.prog 22 #[.int .i64 base, v] w fun e w' => ∃ (F : Nat → Prop) (p : Nat) (ys : List EV), e = .returned (.pointer (some ⟨p, 0, none⟩)) ∧ w.heap.size ≤ p ∧ (∀ i, F i → w.heap.size ≤ i ∧ i < w'.heap.size) ∧ Pp F w' p base ys ∧ ys.map EV.e = xs.map EV.e ∧ Fr none' w w' := by
  obtain ⟨a, c, rfl⟩ := h.cells
  have H := Lib.hid h
  have hxh := Lib.hid hx
  have hkh := Lib.hid hk
  clear h hx hk
  go_enter Tryd.func22, Tryd.ntmps22
  go_wp2_with fail
  refine (pnew_ok _ _ hb).mono ?_
  rintro e w1 ⟨rfl, hp1, f1⟩
  have P1 := Lib.hid hp1
  have F1 := Lib.hid f1
  clear hp1 f1
  go_wp2_with fail
  go_loopw [7] (fun i wr => ∃ k : Nat, i = .int .i64 k ∧ k ≤ xs.length ∧ ∃ (F : Nat → Prop) (ys : List EV), ys.length = k ∧ ys.map EV.e = (xs.take k).map EV.e ∧ (∀ i, F i → w.heap.size ≤ i ∧ i < wr.heap.size) ∧ Pp F wr w.heap.size base ys ∧ Fr none' w wr) (fun i _ => xs.length - (intOf i).toNat)
  case atStart => exact ⟨0, rfl, Nat.zero_le _, none', [], rfl, rfl, fun _ h => h.elim, P1.out, F1.out⟩
  case round =>
    obtain ⟨k, rfl, hk, F, ys, hyl, hye, hF, hP, hf⟩ := hrel
    have hFh := Lib.hid hF
    have hPh := Lib.hid hP
    have hfh := Lib.hid hf
    have hyh := Lib.hid hye
    have hyl' := Lib.hid hyl
    clear hF hP hye hyl
    by_cases hlt : k < xs.length
    · obtain ⟨b, o, rfl, hb', -, hcc⟩ := (H.out.keep0 hf).elem k hlt
      have hl := (H.out.keep0 hf).lines _ (List.getElem_mem hlt)
      have hxx := hxh.out _ (List.getElem_mem hlt)
      obtain ⟨x, hx⟩ : ∃ x, x = xs[k] := ⟨_, rfl⟩
      have hx' := Lib.hid hx
      rw [← hx] at hcc hl hxx
      obtain ⟨c0, c1, c2, c3, c4, c5, c6⟩ := hcc
      obtain ⟨la, lc, hlv⟩ := hl.cells
      rw [hlv] at c6 hl
      have hlh := Lib.hid hl
      have hxx' := Lib.hid hxx
      have hw1 : IntKind.i64.wrap (base + (k : Int)) = base + (k : Int) := by rw [IntKind.wrap_i64]; omega
      have hw2 : IntKind.i64.wrap (base + (k : Int) + 1) = base + (k : Int) + 1 := by rw [IntKind.wrap_i64]; omega
      have hq : ((base + ((k : Int) + 1)) != (base + (k : Int) + 1)) = false := by simp; omega
      clear hf hx hlv hl hxx
      go_wp2_with fail
      refine (pappend_any _ _ _ _ _ _ hPh.out hlh.out hxx'.out.1 (hkh.out.keep0 hfh.out) (by omega) (fun b hb => (hFh.out b hb).2)).mono ?_
      rintro e w2 (⟨h1, -⟩ | ⟨-, h1, -⟩ | ⟨-, -, F', y, hy, rfl, hF', hP', hR⟩)
      · rw [hxx'.out.2] at h1; cases h1
      · rw [hyl'.out] at h1; omega
      · rw [hyl'.out]
        have hyh2 := Lib.hid hy
        have hF2 := Lib.hid hF'
        have hP2 := Lib.hid hP'
        have hR2 := Lib.hid hR
        clear hy hF' hP' hR c0 c1 c2 c3 c4 c5 c6
        go_wp2_with fail
        go_roundw
        case rel =>
          have hsz := hR2.out.size
          have hfw := hfh.out.trans hR2.out (S := none') (fun i hi e => by rcases e with e | e; omega; have := (hFh.out i e).1; omega)
          exact ⟨k + 1, by go_num, by omega, fun i => F' i ∧ i < w2.heap.size, ys ++ [y], by rw [List.length_append, hyl'.out]; rfl, by rw [List.map_append, hyh.out, List.take_succ_eq_append_getElem hlt, List.map_append, ← hx'.out]; simp [hyh2.out], fun i hi => ⟨by
            rcases hF2.out i hi.1 with h | h
            · exact (hFh.out i h).1
            · have := hfh.out.size; omega, hi.2⟩, hP2.out.live, hfw⟩
        case measure => simp [intOf]; omega
    · go_wp2_with fail
      go_ret
      have hke : k = xs.length := by omega
      have hye := hyh.out
      rw [hke, List.take_length] at hye
      exact ⟨F, w.heap.size, ys, rfl, Nat.le_refl _, hFh.out, hPh.out, hye, hf⟩

end Go.Proofs.YtmhicplhfbnpaaaDoor
