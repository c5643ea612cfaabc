/- Texts of this claim, merged by program: Rq Ie If Ig Ma Mb. -/
import Derived.Test.YtpcjmmdgopihcaaGreatDoorZgAn
import Derived.SizedLaws
import Derived.Test.YtpcjmmdgopihcaaGreatDoorZgAm
set_option linter.unusedSimpArgs false
set_option linter.unusedVariables false
set_option maxRecDepth 100000
set_option maxHeartbeats 4000000
namespace Go.Proofs.YtpcjmmdgopihcaaGreatDoor
open Go Go.Ev Go.Proofs Go.ChangeShapes Go.WideShapes Go.ChangeAt Go.RowKit
theorem slot_cells2 {cs : List Value} (h : All2 FK.ok ([.int .u64, .int .u64, .int .u64, .int .u64] ++ [.int .u64, .int .u64, .int .u64, .int .u64]) cs) : ∃ x : Sl, cs = x.cells ∧ True := by
 obtain ⟨m1, m2, rfl, h1, h2⟩ := All2.split h
 obtain ⟨w1, rfl⟩ := word_cells h1
 obtain ⟨w2, rfl⟩ := word_cells h2
 exact ⟨⟨w1, w2⟩, rfl, trivial⟩
noncomputable def fsOf (t : TypeId) : Array Field := match Tryz.prog.underlying t with | some (.struct fs) => fs | _ => #[]
theorem acc_core {H : Type} {enc : TypeId × Value → H} {W0 : World} {base : Nat} {spare : Nat → Bool} {held : Bool} {fuel : Nat} {l : List Value} {dd : DataW H} {ps : List MemPlace}
  (hf : DataW.trod enc Tryz.prog W0 base spare held fuel 31 l = some (dd, ps)) (hz : ∀ n ∈ dd.weights Tryz.prog 31, n ≤ reachBytes) : ∃ (X : Ac) (sx : Value), l = X.cells sx ∧ LiR Sl.cells 8 (roW W0) X.slots sx ∧ X.slots.length ≤ 2199023255551 ∧ i64In X.nonce := by
 have hu : Tryz.prog.underlying 31 = some (.struct (fsOf 31)) := by kernel_rfl
 obtain ⟨xs, m, _, hx, hcs, hxs, hi⟩ := DataW.trod_struct hu hf
 injection hx with hx _
 have hsz : (fsOf 31).size = 5 := by kernel_rfl
 rw [hsz] at hxs
 have h27 : Tryz.prog.cellsOf 31 = 27 := by decide +kernel
 rw [h27] at hcs
 have fk : ∀ (i : Nat) (t : TypeId) (o : Nat), i < 5 → ((fsOf 31)[i]?.map fun f => (f.type, f.offset)) = some (t, o) → ∃ y, xs[i]? = some y ∧ DataW.trod enc Tryz.prog W0 base spare held m t ((l.drop o).take (Tryz.prog.cellsOf t)) = some y := fun i t o h5 hfo => by
  obtain ⟨f, hf, hto⟩ := Option.map_eq_some_iff.1 hfo
  injection hto with ht ho
  subst ht ho
  have := hi i f hf
  rw [List.getElem?_eq_getElem (by omega)] at this
  exact ⟨_, List.getElem?_eq_getElem (by omega), this⟩
 obtain ⟨y0, -, t0⟩ := fk 0 25 0 (by decide) (by kernel_rfl)
 obtain ⟨y1, -, t1⟩ := fk 1 28 20 (by decide) (by kernel_rfl)
 obtain ⟨y2, -, t2⟩ := fk 2 3 24 (by decide) (by kernel_rfl)
 obtain ⟨y3, -, t3⟩ := fk 3 9 25 (by decide) (by kernel_rfl)
 obtain ⟨y4, g4, t4⟩ := fk 4 29 26 (by decide) (by kernel_rfl)
 have c0 : Tryz.prog.cellsOf 25 = 20 := by decide +kernel
 have c1 : Tryz.prog.cellsOf 28 = 4 := by decide +kernel
 have c2 : Tryz.prog.cellsOf 3 = 1 := by decide +kernel
 have c3 : Tryz.prog.cellsOf 9 = 1 := by decide +kernel
 have c4 : Tryz.prog.cellsOf 29 = 1 := by decide +kernel
 rw [c0] at t0
 rw [c1] at t1
 rw [c2] at t2
 rw [c3] at t3
 rw [c4] at t4
 obtain ⟨a, hal, ha⟩ := bytes_cells (flat_of_trod kids 8 (by show _ < _; decide +kernel) (by kernel_rfl) t0)
 obtain ⟨w, hw⟩ := word_cells (flat_of_trod kids 8 (by show _ < _; decide +kernel) (by kernel_rfl) t1)
 obtain ⟨n, hn, hni⟩ : ∃ n, (l.drop 24).take 1 = [.int .i64 n] ∧ i64In n := by
  have := flat_of_trod kids 8 (ks := [.int .i64]) (by show _ < _; decide +kernel) (by kernel_rfl) t2
  revert this
  generalize (l.drop 24).take 1 = q
  intro this
  cases this with
  | cons a0 h3 =>
    cases h3
    obtain ⟨x0, rfl, wx⟩ := a0
    exact ⟨x0, rfl, i64_wf wx⟩
 obtain ⟨c, hc⟩ : ∃ c, (l.drop 25).take 1 = [.string c] := by
  have := flat_of_trod kids 8 (ks := [.str]) (by show _ < _; decide +kernel) (by kernel_rfl) t3
  revert this
  generalize (l.drop 25).take 1 = q
  intro this
  cases this with
  | cons a0 h3 =>
    cases h3
    obtain ⟨x0, rfl, -⟩ := a0
    exact ⟨x0, rfl⟩
 have hus : Tryz.prog.underlying 29 = some (.slice 67) := by kernel_rfl
 obtain ⟨sl, p, k, hs, hli, -, -, -⟩ := liR_of_cells kids (c := Sl.cells) (s := 8) (d := 8) (e := 67) (fun _ => True) (fun _ => slot_cells2) hus (by show _ < _; decide +kernel) (by kernel_rfl) (by decide) (by decide +kernel) t4
 refine ⟨⟨⟨a, hal⟩, w, n, c, sl⟩, .slice p sl.length k, ?_, hli, ?_, hni⟩
 · have hsp : l = (l.drop 0).take 20 ++ ((l.drop 20).take 4 ++ ((l.drop 24).take 1 ++ ((l.drop 25).take 1 ++ (l.drop 26).take 1))) := by
    have e5 : (l.drop 26).take 1 = l.drop 26 := List.take_of_length_le (by rw [List.length_drop]; omega)
    have s1 : ∀ (o k : Nat), (l.drop o).take k ++ l.drop (o + k) = l.drop o := fun o k => by rw [← List.drop_drop, List.take_append_drop]
    rw [e5, s1 25 1, s1 24 1, s1 20 4, s1 0 20, List.drop_zero]
   rw [hsp, ha, hw, hn, hc, hs]
   rfl
 · rcases Deep.open_slice hus t4 with ⟨h1, _⟩ | ⟨a', len, cap, m', n', D, Pl, h1, hb, hcl, hcm, hmm, hy, hx2⟩
   · rw [hs] at h1
     simp only [List.cons.injEq, Value.slice.injEq, and_true] at h1
     show sl.length ≤ _
     omega
   · rw [hs] at h1
     simp only [List.cons.injEq, Value.slice.injEq, and_true] at h1
     have hd : (xs.map (·.1))[4]? = some (.slice ((List.range len).map D) ((List.range (m' - len)).map fun j => D (len + j))) := by rw [List.getElem?_map, g4, hy]; rfl
     have hty : ((fsOf 31).toList.map (·.type))[4]? = some 29 := by kernel_rfl
     have hall : (DataW.weightsEach Tryz.prog ((fsOf 31).toList.map (·.type)) (xs.map (·.1))).all (· ≤ reachBytes) = true := List.all_eq_true.2 fun q hq => by
      have := hz q (by rw [hx]; simp only [DataW.weights, hu]; exact hq)
      simpa using this
     have := sized_slice hall hty hd hus
     have b64 : Tryz.prog.bytesOf 67 = 64 := by decide +kernel
     rw [b64, List.length_map, List.length_range] at this
     have r47 := reachBytes_lt
     show sl.length ≤ _
     omega
theorem account_of {H : Type} {enc : TypeId × Value → H} {W0 : World} {r : Reach} {b0 base : Nat} {spare : Nat → Bool} {held : Bool} {v : Value} {dd : DataW H} {ps : List MemPlace} (hval : Value.okWide Tryz.prog W0 r b0 31 v)
  (h : DataW.Trod enc Tryz.prog W0 base spare held 31 v dd ps) (hz : ∀ n ∈ dd.weights Tryz.prog 31, n ≤ reachBytes) : ∃ (X : Ac) (sx : Value), v = .agg (X.cells sx).toArray ∧ LiR Sl.cells 8 (roW W0) X.slots sx ∧ X.slots.length ≤ 2199023255551 := by
 have hu : Tryz.prog.underlying 31 = some (.struct (fsOf 31)) := by kernel_rfl
 simp only [Value.okWide, hu] at hval
 obtain ⟨cs, rfl, h2, _⟩ := hval
 obtain ⟨fuel, hf⟩ := h
 obtain ⟨X, sx, h3, h4, h5, -⟩ := acc_core hf hz
 refine ⟨X, sx, ?_, h4, h5⟩
 rw [← h3]
 rfl
theorem weights_all {H : Type} {P : Program} {e : TypeId} : ∀ {l : List (DataW H)} {d : DataW H}, d ∈ l → ∀ n ∈ d.weights P e, n ∈ DataW.weightsAll P e l
 | [], _, h, _, _ => by cases h
 | x :: r, d, h, n, hn => by
   rw [DataW.weightsAll]
   rcases List.mem_cons.1 h with rfl | h
   · exact List.mem_append_left _ hn
   · exact List.mem_append_right _ (weights_all h n hn)
theorem accounts_of {H : Type} {enc : TypeId × Value → H} {W0 : World} {r : Reach} {b0 base : Nat} {spare : Nat → Bool} {held : Bool} {v : Value} {dd : DataW H} {ps : List MemPlace} (hval : Value.okWide Tryz.prog W0 r b0 22 v)
  (h : DataW.Trod enc Tryz.prog W0 base spare held 22 v dd ps) (hz : ∀ n ∈ dd.weights Tryz.prog 22, n ≤ reachBytes) : ∃ (s : List Ac) (p : Option Addr) (k : Nat), v = .slice p s.length k ∧ StR s (.slice p s.length k) (roW W0) ∧ s.length ≤ k ∧ (∀ y ∈ s, -9223372036854775808 ≤ y.nonce ∧ y.nonce ≤ 9223372036854775807) ∧ ∀ y ∈ s, y.slots.length ≤ 2199023255551 := by
 have hu : Tryz.prog.underlying 22 = some (.slice 31) := by kernel_rfl
 obtain ⟨a, len, cap, rfl⟩ := okWide_slice hu hval
 obtain ⟨fuel, hf⟩ := h
 rcases Deep.open_slice hu hf with ⟨h1, _⟩ | ⟨a', len', cap', m, n, D, Pl, h1, hb, hl, hm, hmm, hx0, hx⟩
 · simp only [Value.cells, List.cons.injEq, Value.slice.injEq, and_true] at h1
   obtain ⟨rfl, rfl, rfl⟩ := h1
   exact ⟨[], none, 0, rfl, StR.nil _ _, Nat.le_refl _, fun y hy => (by cases hy), fun y hy => (by cases hy)⟩
 · simp only [Value.cells, List.cons.injEq, Value.slice.injEq, and_true] at h1
   obtain ⟨rfl, rfl, rfl⟩ := h1
   have hlm : len ≤ m := by rw [hmm]; split <;> omega
   injection hx0 with hx0 _
   have hw : ∀ i, i < len → ∀ q ∈ (D i).weights Tryz.prog 31, q ≤ reachBytes := fun i hi q hq => by
    refine hz q ?_
    rw [hx0]
    unfold DataW.weights
    rw [hu]
    exact List.mem_cons_of_mem _ (List.mem_append_left _ (weights_all (List.mem_map.2 ⟨i, List.mem_range.2 hi, rfl⟩) q hq))
   haveI : Inhabited (Ac × Value) := ⟨(emptyAt Ad.zero, .slice none 0 0)⟩
   obtain ⟨g, hg⟩ := Deep.choose_lt (α := Ac × Value) (n := len) (p := fun i x => W0.cells? base (a'.add (i * Tryz.prog.cellsOf 31)) (Tryz.prog.cellsOf 31) = some (acC x) ∧ LiR Sl.cells 8 (roW W0) x.1.slots x.2 ∧ x.1.slots.length ≤ 2199023255551 ∧ i64In x.1.nonce) fun i hi => by
    obtain ⟨cs', h2, h3⟩ := hx i (by omega)
    obtain ⟨X, sx, h4, h5, h6, h7⟩ := acc_core h3 (hw i hi)
    exact ⟨(X, sx), by rw [h2, h4]; rfl, h5, h6, h7⟩
   have h27 : Tryz.prog.cellsOf 31 = 27 := by decide +kernel
   have hLl : ((List.range len).map g).length = len := by rw [List.length_map, List.length_range]
   refine ⟨((List.range len).map g).map (·.1), some a', cap, by rw [List.length_map, hLl], ⟨(List.range len).map g, rfl, ?_, fun x hx => ?_⟩, by rw [List.length_map, hLl]; exact hl, fun y hy => ?_, fun y hy => ?_⟩
   · refine ⟨some a', cap, by rw [List.length_map], ?_⟩
     rcases Nat.eq_zero_or_pos len with h0 | h0
     · exact .inl (by subst h0; rfl)
     · obtain ⟨h4, h5⟩ := roW_row (fun i => acC (g i)) (by rw [h27]; decide) (fun i hi => (hg i hi).1) h0
       refine .inr ⟨a'.block, a'.off, by rw [← h4], ?_⟩
       rw [h27] at h5
       rw [hLl, h5, List.flatMap_map]
   · obtain ⟨i, hi, rfl⟩ := List.mem_map.1 hx
     exact (hg i (List.mem_range.1 hi)).2.1
   · rw [List.map_map] at hy
     obtain ⟨i, hi, rfl⟩ := List.mem_map.1 hy
     exact (hg i (List.mem_range.1 hi)).2.2.2
   · rw [List.map_map] at hy
     obtain ⟨i, hi, rfl⟩ := List.mem_map.1 hy
     exact (hg i (List.mem_range.1 hi)).2.2.1
theorem ch_cells {cs : List Value} (h : All2 FK.ok (.int .i64 :: (List.replicate 20 (.int .u8) ++ ([.int .u64, .int .u64, .int .u64, .int .u64] ++ ([.int .u64, .int .u64, .int .u64, .int .u64] ++ [.int .i64, .str])))) cs) : ∃ x : Ch, cs = x.cells := by
 cases h with
 | cons a0 h =>
   obtain ⟨x0, rfl, -⟩ := a0
   obtain ⟨m1, m2, rfl, h1, h2⟩ := All2.split h
   obtain ⟨l, hl, rfl⟩ := bytes_cells h1
   obtain ⟨m3, m4, rfl, h3, h4⟩ := All2.split h2
   obtain ⟨w1, rfl⟩ := word_cells h3
   obtain ⟨m5, m6, rfl, h5, h6⟩ := All2.split h4
   obtain ⟨w2, rfl⟩ := word_cells h5
   cases h6 with
   | cons a1 h6 =>
     cases h6 with
     | cons a2 h6 =>
       cases h6
       obtain ⟨x1, rfl, -⟩ := a1
       obtain ⟨x2, rfl, -⟩ := a2
       exact ⟨⟨x0, ⟨l, hl⟩, w1, w2, x1, x2⟩, rfl⟩
theorem change_of {H : Type} {enc : TypeId × Value → H} {W0 : World} {r : Reach} {b0 base : Nat} {spare : Nat → Bool} {held : Bool} {v : Value} {dd : DataW H} {ps : List MemPlace} (hval : Value.okWide Tryz.prog W0 r b0 33 v)
  (h : DataW.Trod enc Tryz.prog W0 base spare held 33 v dd ps) : ∃ w : Ch, v = w.v := by
 obtain ⟨w, hw⟩ := ch_cells (flat_of_Trod kids (d := 8) (by show _ < _; decide +kernel) (by kernel_rfl) h)
 obtain ⟨fs, hu⟩ : ∃ fs, Tryz.prog.underlying 33 = some (.struct fs) := by
  have hs : (match Tryz.prog.underlying 33 with | some (.struct _) => true | _ => false) = true := by kernel_rfl
  split at hs
  · rename_i fs hu; exact ⟨fs, hu⟩
  · cases hs
 simp only [Value.okWide, hu] at hval
 obtain ⟨cs, rfl, h2, _⟩ := hval
 refine ⟨w, ?_⟩
 show Value.agg cs = .agg w.cells.toArray
 rw [← hw]
 rfl
end Go.Proofs.YtpcjmmdgopihcaaGreatDoor
namespace Go.Ev
def byC (x : UInt8) : List Value := [.int .u8 x.toNat]
theorem byC_len (x : UInt8) : (byC x).length = 1 := rfl
theorem byV_len (l : List UInt8) : (byteV l).length = l.length := by unfold byteV; rw [List.length_map]
theorem byV_flat (l : List UInt8) : l.flatMap byC = byteV l := by
 induction l with
 | nil => rfl
 | cons x r ih => rw [List.flatMap_cons, ih]; rfl
def lowN : List UInt8 → Nat
 | [] => 0
 | x :: r => x.toNat + 256 * lowN r
theorem lowN_lt : ∀ (r : List UInt8), lowN r < 256 ^ r.length
 | [] => by decide
 | x :: r => by
   have h := lowN_lt r
   have hx := x.toNat_lt
   rw [List.length_cons, Nat.pow_succ]
   show x.toNat + 256 * lowN r < _
   have : 256 * (lowN r + 1) ≤ 256 * 256 ^ r.length := Nat.mul_le_mul_left _ h
   rw [Nat.mul_comm (256 ^ r.length)]
   omega
theorem lowN_take (r : List UInt8) : ∀ {i : Nat} (h : i < r.length), lowN (r.take (i + 1)) = lowN (r.take i) + (r[i]).toNat * 256 ^ i := by
 induction r with
 | nil => intro i h; exact absurd h (Nat.not_lt_zero _)
 | cons x r ih =>
   intro i h
   cases i with
   | zero => simp [lowN]
   | succ i =>
     simp only [List.take_succ_cons, lowN, List.getElem_cons_succ]
     have e : ∀ a p : Nat, 256 * (a * p) = a * (p * 256) := fun a p => by rw [← Nat.mul_assoc, Nat.mul_comm 256 a, Nat.mul_assoc, Nat.mul_comm 256 p]
     rw [ih (by simpa using h), Nat.pow_succ, Nat.mul_add, e, Nat.add_assoc]
theorem or_shl8 {x c r : Nat} (hr : r < 8) (hx : x < 256 ^ r) (hc : c < 256) : bitsI .or .u64 (x : Int) (shlI .u64 (c : Int) (8 * (r : Int))) = ((x + c * 256 ^ r : Nat) : Int) ∧ x + c * 256 ^ r < 18446744073709551616 := by
 have e8 : (256 : Nat) ^ r = 2 ^ (8 * r) := by rw [Nat.pow_mul]
 have hle : (256 : Nat) ^ r ≤ 256 ^ 7 := Nat.pow_le_pow_right (by decide) (by omega)
 have hc2 : c * 256 ^ r ≤ 255 * 256 ^ r := Nat.mul_le_mul_right _ (by omega)
 have hlt : x + c * 256 ^ r < 256 * 256 ^ r := by omega
 have h64 : 256 * 256 ^ r ≤ 18446744073709551616 := by
  have := Nat.mul_le_mul_left 256 hle
  exact Nat.le_trans this (by decide)
 refine ⟨?_, by omega⟩
 have es : shlI .u64 (c : Int) (8 * (r : Int)) = ((c * 256 ^ r : Nat) : Int) := by
  unfold shlI
  rw [IntKind.wrap_u64, show (8 * (r : Int)).toNat = 8 * r by omega, show min (8 * r) IntKind.u64.bits = 8 * r by show min (8 * r) 64 = 8 * r; omega]
  rw [show (2 : Int) ^ (8 * r) = ((256 ^ r : Nat) : Int) by rw [e8, Int.natCast_pow]; rfl, ← Int.natCast_mul]
  omega
 rw [es]
 have h := bits_or_u64_nat x (c * 256 ^ r) (by omega) (by omega)
 have e : x ||| c * 256 ^ r = x + c * 256 ^ r := by
  rw [Nat.or_comm, Nat.mul_comm, e8, ← Nat.two_pow_add_eq_or_of_lt (by rw [← e8]; exact hx), Nat.add_comm]
 rw [e] at h
 exact h
def padJ (l : List UInt8) (j : Nat) : List UInt8 := l ++ 1 :: List.replicate j 0
theorem padJ_0 (l : List UInt8) : padJ l 0 = l ++ [1] := rfl
theorem padJ_s (l : List UInt8) (j : Nat) : padJ l (j + 1) = padJ l j ++ [0] := by
 unfold padJ
 rw [List.replicate_succ', List.append_assoc, List.cons_append]
theorem padJ_len (l : List UInt8) (j : Nat) : (padJ l j).length = l.length + 1 + j := by
 unfold padJ
 rw [List.length_append, List.length_cons, List.length_replicate]; omega
theorem byV_at {a : List UInt8} {i : Nat} (h : i < a.length) : List.take 1 (List.drop i (byteV a)) = [.int .u8 ((a.getD i 0).toNat : Nat)] := by
 unfold byteV
 rw [← List.map_drop, ← List.map_take, List.drop_eq_getElem_cons h, List.take_succ_cons, List.take_zero, List.map_cons, List.map_nil, List.getD_eq_getElem?_getD, List.getElem?_eq_getElem h, Option.getD_some]
theorem byV_set {a : List UInt8} {i : Nat} {x : UInt8} (h : i < a.length) : List.take i (byteV a) ++ .int .u8 (x.toNat : Nat) :: List.drop (i + 1) (byteV a) = byteV (a.set i x) := by
 unfold byteV
 rw [List.set_eq_take_append_cons_drop, if_pos h, List.map_append, List.map_cons, List.map_take, List.map_drop]
def padJ_many (n : Nat) : Nat := (136 - (n + 1) % 136) % 136
def orL (L : List UInt8) : List UInt8 := L.set (L.length - 1) (L.getD (L.length - 1) 0 ||| 128)
noncomputable def padK (l : List UInt8) : List UInt8 := orL (padJ l (padJ_many l.length))
theorem padK_len (l : List UInt8) : (padK l).length = l.length + 1 + padJ_many l.length := by
 unfold padK orL
 rw [List.length_set, padJ_len]
theorem padK_mod (l : List UInt8) : (padK l).length % 136 = 0 := by
 rw [padK_len]
 unfold padJ_many
 omega
theorem or128 : ∀ x < 256, bitsI .or .u8 ((x : Nat) : Int) 128 = ((x ||| 128 : Nat) : Int) := by decide +kernel
end Go.Ev
namespace Go.Proofs.YtpcjmmdgopihcaaGreatDoor
open Go Go.Ev Go.Proofs
theorem low_ok {M : Hp} {l : List UInt8} {v : Value} (hl : LiR byC 1 M l v) (hm : marksOf M = []) (h8 : l.length ≤ 8) : CallsV Tryz.prog 82 [v] M (Ret0 (.int .u64 (lowN l : Nat))) := by
 obtain ⟨p, k, rfl, hla⟩ := LiR.openC byC_len (by decide) hl
 refine callsO gI0_ok Tryz.mix Tryz.pl82 Tryz.func82 rfl Tryz.ntmps82 Tryz.results82 rfl (by first | rfl | assumption) (Nat.le_of_ble_eq_true rfl) (by kernel_rfl) ?_
 simp only [push_cast, seval, reduceCtorEq]
 refine loopO gI0_ok (pl := Tryz.pl82) Tryz.mix (X := Nat)
  (fun i => ([(2, .int .u64 (lowN (l.take i) : Nat)), (5, .slice p l.length k), (6, .int .i64 l.length), (7, .int .i64 i)], M))
  (fun i => i ≤ l.length) (fun i => l.length - i) 0 ?_ ?_ (by kernel_rfl) ?_
 · exact Nat.zero_le _
 · simp only [push_cast, seval, reduceCtorEq, List.take_zero, lowN]
   try exact subH_self _
 · intro i hi
   by_cases hc : i < l.length
   · rcases hla with hl0 | ⟨b, f, d, kd, cs, rfl, hfe, hat⟩
     · rw [hl0] at hc; simp at hc
     obtain ⟨a1, a2⟩ := hat i l[i] (List.getElem?_eq_getElem hc)
     rw [Nat.mul_one] at a1 a2
     rw [show byC l[i] = [.int .u8 (l[i]).toNat] from rfl] at a2
     have i1 : (i : Int) < (l.length : Int) := by omega
     have hst := lowN_take l hc
     have hx := lowN_lt (l.take i)
     rw [List.length_take, Nat.min_eq_left (by omega)] at hx
     obtain ⟨c, hcc⟩ : ∃ c, c = (l[i]).toNat := ⟨_, rfl⟩
     have hc2 : c < 256 := hcc ▸ (l[i]).toNat_lt
     rw [← hcc] at a2 hst
     obtain ⟨o1, o2⟩ := or_shl8 (x := lowN (l.take i)) (c := c) (r := i) (by omega) hx hc2
     rw [← hst] at o1 o2
     have w1 : IntKind.u64.wrap (c : Int) = (c : Int) := by rw [IntKind.wrap_u64]; omega
     have w2 : ¬ (8 * (i : Int) < 0) := by omega
     simp only [push_cast, seval, reduceCtorEq, hc, i1, hfe, a1, a2, w1, w2, wrap_i64' (show -9223372036854775808 ≤ 8 * (i : Int) ∧ 8 * (i : Int) ≤ 9223372036854775807 by omega), o1, wrap_i64' (show -9223372036854775808 ≤ (i : Int) + 1 ∧ (i : Int) + 1 ≤ 9223372036854775807 by omega)]
     exact ⟨i + 1, hc, by omega, rfl, rfl⟩
   · obtain rfl : i = l.length := by omega
     have i1 : ¬ (l.length : Int) < (l.length : Int) := by omega
     simp only [push_cast, seval, reduceCtorEq, hc, i1, List.take_length]
theorem low_R {M : Hp} {l : List UInt8} {v : Value} (hl : LiR byC 1 M l v) (h8 : l.length ≤ 8) : ∀ M0, roM M0 → cellsAt M0 = cellsAt M → CallsV Tryz.prog 82 [v] M0 (Ret0 (.int .u64 (lowN l : Nat))) :=
 fun _ hr he => low_ok (hl.congr he.symm) hr.marks h8
noncomputable def gI1 : Gam := addM bytesFlag flagM gI0
attribute [push_cast] gI1
theorem gI1_ok : GamOk Tryz.prog gI1 := addM_ok flagM_ok gI0_ok
attribute [-push_cast] evAppend_nil evAppend_some
theorem pad_ok (l : List UInt8) (hl : l.length ≤ 2000000) : CallsV Tryz.prog 81 [.string ⟨l.toArray⟩] [] (Ret0 (.string ⟨(padK l).toArray⟩)) := by
 have hsz : (ByteArray.mk l.toArray).size = l.length := by simp [ByteArray.size]
 refine callsO gI1_ok Tryz.mix Tryz.pl81 Tryz.func81 rfl Tryz.ntmps81 Tryz.results81 rfl (by first | rfl | assumption) (Nat.le_of_ble_eq_true rfl) (by kernel_rfl) ?_
 simp only [push_cast, seval, reduceCtorEq, hsz]
 intro b c hc b1 hb1
 obtain ⟨J, hJ0⟩ : ∃ J, J = padJ_many l.length := ⟨_, rfl⟩
 have hJ : J = (136 - (l.length + 1) % 136) % 136 := hJ0
 have hb1' : fresh b1 [⟨b, 0, .vec 5 1 c, byteV l⟩] := ⟨hb1.1, hb1.2, trivial⟩
 refine push_gA (P := Tryz.prog) (e := 5) (sz := 1) (c := byC) (x := (1 : UInt8)) (N := [⟨b, 0, .vec 5 1 c, byteV l⟩]) (X := []) [] (by_ := 1) (q := 1) (ag := false) (l := l) (.inr ⟨b, c, rfl, hc, by rw [byV_flat, byV_len, Nat.mul_one], by rw [byV_flat]⟩) ⟨hb1', trivial⟩ (by simp only [push_cast, seval, reduceCtorEq]) (by simp only [push_cast, seval, reduceCtorEq]) rfl rfl (by unfold two47; omega) fun v3 N3 ho4 hf4 => ?_
 rw [← padJ_0] at ho4
 obtain ⟨p3, c3, rfl⟩ := ho4.slice
 have h0l := padJ_len l 0
 rw [h0l] at ho4
 simp only [push_cast, seval, reduceCtorEq]
 have w3 := ho4.wr.2
 refine loopO gI1_ok (pl := Tryz.pl81) Tryz.mix (X := {x : (Nat × Value) × Hp // marksOf x.2 = []})
  (fun x => ([(3, x.1.1.2)], x.1.2))
  (fun x => x.1.1.1 ≤ J ∧ OutG 5 1 ((padJ l x.1.1.1).flatMap byC) (l.length + 1 + x.1.1.1) x.1.1.2 x.1.2) (fun x => J - x.1.1.1) ⟨((0, .slice p3 (l.length + 1 + 0) c3), N3), w3⟩ ?_ ?_ (by kernel_rfl) ?_
 · exact ⟨Nat.zero_le _, ho4⟩
 · simp only [push_cast, seval, reduceCtorEq, marks_append, marksOf, w3, h0l]
   try exact subH_app _ _
 · rintro ⟨⟨⟨j, vj⟩, N⟩, hNm⟩ ⟨hj, ho⟩
   dsimp only at hj ho hNm ⊢
   obtain ⟨pj, cj, rfl⟩ := ho.slice
   have hlen := padJ_len l j
   have hstep := padJ_s l j
   obtain ⟨L, hL⟩ : ∃ L, L = padJ l j := ⟨_, rfl⟩
   obtain ⟨n, hn⟩ : ∃ n, n = l.length + 1 + j := ⟨_, rfl⟩
   rw [← hL] at ho hlen hstep
   rw [← hn] at hlen ho ⊢
   have et : (n : Int).tmod 136 = (n : Int) % 136 := Int.tmod_eq_emod_of_nonneg (by omega)
   by_cases hc2 : j < J
   · have m1 : ((n : Int) % 136 != 0) = true := bne_iff_ne.2 (by omega)
     simp only [push_cast, seval, reduceCtorEq, et, m1]
     intro bs hbs
     rw [← hlen] at ho ⊢
     have hNN : N = N ++ [] := (List.append_nil N).symm
     obtain ⟨N0, hN0⟩ : ∃ N0, N0 = N := ⟨_, rfl⟩
     rw [← hN0] at hNN ho hbs ⊢
     rw [hNN]
     refine push_gA (P := Tryz.prog) (e := 5) (sz := 1) (c := byC) (x := (0 : UInt8)) (N := N0) (X := []) [] (by_ := 1) (q := 1) (ag := false) (l := L) ho ⟨hbs, trivial⟩ (by simp only [push_cast, seval, reduceCtorEq]) (by simp only [push_cast, seval, reduceCtorEq]) rfl rfl (by unfold two47; omega) fun v4 N4 ho5 hf5 => ?_
     obtain ⟨p4, c4, rfl⟩ := ho5.slice
     have hl5 : (L ++ [0]).length = l.length + 1 + (j + 1) := by rw [List.length_append, hlen]; show n + 1 = _; omega
     rw [hl5, ← hstep] at ho5
     have w5 := ho5.wr.2
     have w0 := ho.wr.2
     simp only [push_cast, seval, reduceCtorEq, hl5]
     refine ⟨⟨((j + 1, .slice p4 (l.length + 1 + (j + 1)) c4), N4), w5⟩, ⟨hc2, ho5⟩, by dsimp only; omega, rfl, ?_, ?_⟩
     · exact subH_app _ _
     · simp [marks_append, marksOf, w5, w0]
   · obtain rfl : j = J := by omega
     have m1 : ((n : Int) % 136 != 0) = false := by rw [show (n : Int) % 136 = 0 by omega]; rfl
     rcases ho with ⟨r1, -⟩ | ⟨bu, cu, r3, r4, r5, rfl⟩
     · omega
     cases r3
     obtain ⟨m, hm⟩ : ∃ m, m = l.length + j := ⟨_, rfl⟩
     have em : IntKind.i64.wrap ((n : Int) - 1) = (m : Int) := by
      rw [show (n : Int) - 1 = (m : Int) by omega]
      exact IntWalk.i64_in _ (by omega)
     have hmL : m < L.length := by omega
     have a1 := byV_at hmL
     have a2 := or128 (L.getD m 0).toNat (L.getD m 0).toNat_lt
     have a3 := byV_set (x := L.getD m 0 ||| 128) hmL
     rw [UInt8.toNat_or, show (128 : UInt8).toNat = 128 from rfl] at a3
     have m2 : (0 : Int) ≤ m := by omega
     have m3 : (m : Int) < (n : Int) := by omega
     have m4 : m + 1 ≤ n := by omega
     have lb : (byteV L).length = n := by rw [byV_len, hlen]
     have lc : (byteV (L.set m (L.getD m 0 ||| 128))).length = n := by rw [byV_len, List.length_set, hlen]
     have hfin : padK l = L.set m (L.getD m 0 ||| 128) := by
      unfold padK orL
      rw [← hJ0, ← hL, hlen, show n - 1 = m by omega]
     rw [hfin]
     rw [byV_flat]
     simp only [push_cast, seval, reduceCtorEq, et, m1, em, m2, m3, m4, lb, lc, a1, a2, a3, (show ¬ n = 0 by omega), (List.take_of_length_le (Nat.le_of_eq lc) : List.take n (byteV (L.set m (L.getD m 0 ||| 128))) = _), bytesOf_byteV]
end Go.Proofs.YtpcjmmdgopihcaaGreatDoor
namespace Go.Proofs.YtpcjmmdgopihcaaGreatDoor
open Go Go.Ev Go.Proofs
def chkV (bq B : Nat) : List (List Value) := (List.range B).map fun j => [.slice (some ⟨bq, 136 * j, none⟩) 136 136]
theorem chkV_at {bq B k : Nat} {args : List Value} (h : (chkV bq B)[k]? = some args) : k < B ∧ args = [.slice (some ⟨bq, 136 * k, none⟩) 136 136] := by
 unfold chkV at h
 rw [List.getElem?_map] at h
 obtain ⟨j, hj, rfl⟩ := Option.map_eq_some_iff.1 h
 obtain ⟨h1, h2⟩ := List.getElem?_eq_some_iff.1 hj
 rw [List.getElem_range] at h2
 subst h2
 rw [List.length_range] at h1
 exact ⟨h1, rfl⟩
theorem chkV_one {bq B : Nat} : ∀ args ∈ chkV bq B, args.length = 1 := fun args h => by
 obtain ⟨j, -, rfl⟩ := List.mem_map.1 h
 rfl
theorem chkV_len (bq B : Nat) : (chkV bq B).length = B := by unfold chkV; simp
theorem chunk1_ok {Hc : Hp} {b2 b3 bq B c T : Nat} {k2 k3 : Kind} (hT : T = 136 * B) (hTc : T ≤ c) (hB : B ≤ 1000000) (hmc : marksOf Hc = []) (h2 : findE Hc b2 = some ⟨b2, 0, k2, [.slice (some ⟨bq, 0, none⟩) T c]⟩) (h3 : findE Hc b3 = some ⟨b3, 0, k3, [.int .i64 136]⟩) :
  IterV Tryz.prog 106 [.pointer (some ⟨b2, 0, none⟩), .pointer (some ⟨b3, 0, none⟩)] Hc (chkV bq B) := by
 refine ⟨enterO Tryz.func106 rfl rfl, fun X Ho I St l x0 hro hmk h0 hy => ?_⟩
 have hmarks : ∀ x, marksOf (Hc ++ Ho x) = [] := fun x => by rw [marks_append, hmc, hmk]; rfl
 have hm0 := hmarks x0
 have h2' := fun z => findE_appT (B := Ho z) h2
 have h3' := fun z => findE_appT (B := Ho z) h3
 have yl : ∀ (j : Nat) (z : X) (v : Value) (K' : Value → Hp → Prop), j < B → v = .slice (some ⟨bq, 136 * j, none⟩) 136 136 → I j z → (∀ x', I (j + 1) x' → K' (.bool true) (Hc ++ Ho x')) → (∀ x', St x' → K' (.bool false) (Hc ++ Ho x')) → YieldV Tryz.prog l [v] (Hc ++ Ho z) K' := fun j z v K' hj hv hi ht hf => by
  subst hv
  refine (hy j z [.slice (some ⟨bq, 136 * j, none⟩) 136 136] (by unfold chkV; rw [List.getElem?_map, List.getElem?_range hj]; rfl) hi).frame ?_ ?_
  · rintro v H' (⟨rfl, x', _, rfl⟩ | ⟨rfl, x', _, rfl⟩) <;> exact hro z x'
  · rintro v H' (⟨rfl, x', h, rfl⟩ | ⟨rfl, x', h, rfl⟩)
    · exact ht x' h
    · exact hf x' h
 have yf : ∀ (x' : X), (I (chkV bq B).length x' ∨ St x') → ∃ H'_1, List.Sublist H'_1 (dropM (Hc ++ Ho x')) ∧ ∃ z, (I (chkV bq B).length z ∨ St z) ∧ H'_1 = Ho z := fun x' hst => by
  refine ⟨Ho x', ?_, x', hst, rfl⟩
  rw [dropM_eq (hmarks x')]
  exact List.sublist_append_right _ _
 have hvl := chkV_len bq B
 obtain ⟨vs, hvs⟩ : ∃ vs, vs = chkV bq B := ⟨_, rfl⟩
 rw [← hvs] at yf hvl ⊢
 refine callsO gI0_ok Tryz.mix Tryz.pl106 Tryz.func106 rfl Tryz.ntmps106 Tryz.results106 rfl (by first | rfl | assumption) (Nat.le_of_ble_eq_true rfl) (by kernel_rfl) ?_
 simp only [push_cast, seval, reduceCtorEq, h2', h3']
 refine loopO gI0_ok (pl := Tryz.pl106) Tryz.mix (X := Nat × X)
  (fun s => ([(0, .func (.yield l) #[] #[]), (1, .pointer (some ⟨b2, 0, none⟩)), (2, .pointer (some ⟨b3, 0, none⟩)), (4, .int .i64 (136 * (s.1 : Int)))], Hc ++ Ho s.2))
  (fun s => s.1 ≤ B ∧ I s.1 s.2) (fun s => B - s.1) (0, x0) ?_ ?_ (by kernel_rfl) ?_
 · exact ⟨Nat.zero_le _, h0⟩
 · simp only [push_cast, seval, reduceCtorEq, hm0, subH_self]
 · rintro ⟨k, z⟩ ⟨hk, hi⟩
   dsimp only at hk hi ⊢
   obtain ⟨p, hp⟩ : ∃ p, p = 136 * k := ⟨_, rfl⟩
   have ep : 136 * (k : Int) = (p : Int) := by omega
   by_cases hc : k < B
   · have k1 : (p : Int) < (T : Int) := by omega
     have k2 : p < T := by omega
     have k3 : (0 : Int) ≤ (p : Int) := by omega
     have k4 : (p : Int) ≤ (T : Int) := by omega
     have k5 : p ≤ T := by omega
     have k6 : (136 : Int) ≤ ((T - p : Nat) : Int) := by omega
     obtain ⟨q, hq⟩ : ∃ q, q = p + 136 := ⟨_, rfl⟩
     have kw : IntKind.i64.wrap ((p : Int) + 136) = (q : Int) := by
      rw [show (p : Int) + 136 = (q : Int) by omega]
      exact IntWalk.i64_in _ (by omega)
     have k7 : (q : Int) ≤ (c : Int) := by omega
     have k8 : q ≤ c := by omega
     have k9 : p ≤ q := by omega
     have k10 : (0 : Int) ≤ (q : Int) := by omega
     have k11 : ¬ ((T : Int) - (p : Int) < 136) := by omega
     have k13 : ¬ (q = p) := by omega
     have k14 : q - p = 136 := by omega
     simp only [push_cast, seval, reduceCtorEq, h2', h3', hc, ep, k1, k2, k3, k4, k5, k6, kw, k7, k8, k9, k10, k11, Int.le_refl, Nat.le_refl, Int.toNat_natCast, k13, k14]
     refine yl k z (.slice (some ⟨bq, p, none⟩) 136 136) _ hc (by rw [hp]) hi (fun x' hx' => ?_) (fun x' hx' => ?_)
     · simp only [push_cast, seval, reduceCtorEq, h2', h3', kw]
       exact ⟨(k + 1, x'), ⟨hc, hx'⟩, by dsimp only; omega, by dsimp only; rw [hq, hp]; congr 1, subH_self _, by simp only [hmarks]⟩
     · simp only [push_cast, seval, reduceCtorEq]
       exact yf x' (.inr hx')
   · obtain rfl : k = B := by omega
     have k1 : ¬ (p : Int) < (T : Int) := by omega
     have k2 : ¬ p < T := by omega
     simp only [push_cast, seval, reduceCtorEq, h2', h3', hc, ep, k1, k2]
     exact yf z (.inl (by rw [hvl]; exact hi))
theorem chunk_ok (p : Option Addr) (T c : Nat) : CallsV Tryz.prog 80 [.slice p T c, .int .i64 136] [] (fun v N => ∃ b2 b3, v = .func (.func 106) #[] #[.pointer (some ⟨b2, 0, none⟩), .pointer (some ⟨b3, 0, none⟩)] ∧ N = [⟨b3, 0, .cel 3, [.int .i64 136]⟩, ⟨b2, 0, .cel 101, [.slice p T c]⟩] ∧ ¬ b3 = b2) := by
 refine callsO gI0_ok Tryz.mix Tryz.pl80 Tryz.func80 rfl Tryz.ntmps80 Tryz.results80 rfl (by first | rfl | assumption) (Nat.le_of_ble_eq_true rfl) (by kernel_rfl) ?_
 simp only [push_cast, seval, reduceCtorEq]
 intro b2 b3 hb3
 try simp only [push_cast, seval, reduceCtorEq, hb3]
 exact ⟨[_, _], List.Sublist.refl _, b2, b3, rfl, rfl, hb3.1⟩
end Go.Proofs.YtpcjmmdgopihcaaGreatDoor
namespace Go.Ev
noncomputable def abS (a : List Nat) (b : List UInt8) : Nat → List Nat
 | 0 => a
 | i + 1 => (abS a b i).set i (xorN (ln (abS a b i) i) (lowN ((b.drop (8 * i)).take 8)))
theorem low8_lt (b : List UInt8) : lowN (b.take 8) < 18446744073709551616 := by
 have h := lowN_lt (b.take 8)
 have h2 : 256 ^ (b.take 8).length ≤ 256 ^ 8 := Nat.pow_le_pow_right (by decide) (by rw [List.length_take]; omega)
 exact Nat.lt_of_lt_of_le h (Nat.le_trans h2 (by decide))
theorem abS_ln {a : List Nat} (h : Ln 25 a) (b : List UInt8) : ∀ i, Ln 25 (abS a b i)
 | 0 => h
 | i + 1 => (abS_ln h b i).set _ (xorN_lt ((abS_ln h b i).at _) (low8_lt _))
noncomputable def sumS (Q : List UInt8) : Nat → List Nat
 | 0 => List.replicate 25 0
 | j + 1 => permK (abS (sumS Q j) ((Q.drop (136 * j)).take 136) 17)
theorem sumS_ln (Q : List UInt8) : ∀ j, Ln 25 (sumS Q j)
 | 0 => Ln.zero 25
 | j + 1 => permK_ln (abS_ln (sumS_ln Q j) _ 17)
noncomputable def ouS (a : List Nat) : Nat → List UInt8
 | 0 => List.replicate 32 0
 | i + 1 => (ouS a i).set i (UInt8.ofNat (ln a (i / 8) / 256 ^ (i % 8) % 256))
theorem ouS_len (a : List Nat) : ∀ i, (ouS a i).length = 32
 | 0 => List.length_replicate ..
 | i + 1 => by
   show ((ouS a i).set i _).length = 32
   rw [List.length_set]; exact ouS_len a i
noncomputable def keccK : List UInt8 → List UInt8 := hid fun l => ouS (sumS (padK l) ((padK l).length / 136)) 32
theorem keccK_eq (l : List UInt8) : keccK l = ouS (sumS (padK l) ((padK l).length / 136)) 32 := by unfold keccK; rw [hid_eq]
theorem keccK_len (l : List UInt8) : (keccK l).length = 32 := by rw [keccK_eq]; exact ouS_len _ 32
theorem octet8 {x r : Nat} (hx : x < 18446744073709551616) (hr : r < 8) : IntKind.u8.wrap (shrI .u64 (x : Int) (8 * (r : Int))) = ((x / 256 ^ r % 256 : Nat) : Int) := by
 unfold shrI
 rw [show (8 * (r : Int)).toNat = 8 * r by omega, show min (8 * r) IntKind.u64.bits = 8 * r by show min (8 * r) 64 = 8 * r; omega, Int.fdiv_eq_ediv_of_nonneg _ (Int.pow_nonneg (by decide)), IntKind.wrap_u8]
 rw [show (2 : Int) ^ (8 * r) = ((256 ^ r : Nat) : Int) by rw [Int.natCast_pow, Int.pow_mul]; rfl]
 rw [Int.natCast_emod, Int.natCast_ediv]; rfl
theorem blk_part {Q : List UInt8} {p u : Nat} (hu : u + 8 ≤ 136) : (((Q.drop p).take 136).drop u).take 8 = (Q.drop (p + u)).take 8 := by
 rw [List.drop_take, List.take_take, List.drop_drop, Nat.min_eq_left (by omega)]
theorem byV_part {M : Hp} {bq o n k : Nat} {kd : Kind} {Q : List UInt8} (h : findE M bq = some ⟨bq, 0, kd, byteV Q⟩) (hn : o + n ≤ Q.length) : LiR byC 1 M ((Q.drop o).take n) (.slice (some ⟨bq, o, none⟩) n k) := by
 have hl : ((Q.drop o).take n).length = n := by rw [List.length_take, List.length_drop]; omega
 refine ⟨some ⟨bq, o, none⟩, k, by rw [hl], .inr ⟨bq, o, rfl, ?_⟩⟩
 unfold cellsAt
 rw [h]
 dsimp only
 rw [if_pos (Nat.zero_le _), hl, byV_flat]
 unfold subL
 rw [if_pos (by rw [byV_len]; omega), Nat.sub_zero, Nat.mul_one]
 unfold byteV
 rw [List.map_take, List.map_drop]
theorem takeI {P : Program} {g : FuncId} {args : List Value} (L : Hp) {M : Hp} {v : Value} {K : Value → Prop} (hc : ∀ M0, roM M0 → cellsAt M0 = cellsAt M → CallsV P g args M0 (Ret0 v)) (hL : freshN L M) (hk : K v) : TakeV P g args (L ++ M) K := TakeV.mk (derE_behind hL) (hc (roAll M) (roAll_ro M) (cellsAt_roAll M)) hk
end Go.Ev
namespace Go.Proofs.YtpcjmmdgopihcaaGreatDoor
open Go Go.Ev Go.Proofs
theorem perm_R {M : Hp} {a : List Nat} (h : Ln 25 a) (hk : KonR M) : ∀ M0, roM M0 → cellsAt M0 = cellsAt M → CallsV Tryz.prog 83 [.agg (lnC a).toArray] M0 (Ret0 (.agg (lnC (permK a)).toArray)) :=
 fun _ hr he => perm_ok h (hk.congr he.symm) hr.marks
def plSum : Plans := fun i => if i = 9 then [] else Tryz.pl56 i
attribute [push_cast] plSum
theorem sum_ok {M : Hp} (hk : KonR M) (hm : marksOf M = []) (l : List UInt8) (hl : l.length ≤ 1048576) : CallsV Tryz.prog 56 [.string ⟨l.toArray⟩] M (Ret0 (.tuple #[.string ⟨(keccK l).toArray⟩, .int .i64 0])) := by
 have hsz : (ByteArray.mk l.toArray).size = l.length := by simp [ByteArray.size]
 have hl1 : ¬ 1048576 < (l.length : Int) := by omega
 have hl2 : ¬ 1048576 < l.length := by omega
 obtain ⟨Q, hQ⟩ : ∃ Q, Q = padK l := ⟨_, rfl⟩
 have hq1 := padK_len l
 have hq2 := padK_mod l
 have hq3 : padJ_many l.length < 136 := Nat.mod_lt _ (by decide)
 have hpad := pad_ok l (by omega)
 rw [keccK_eq]
 rw [← hQ] at hq1 hq2 hpad ⊢
 obtain ⟨T, hT⟩ : ∃ T, T = Q.length := ⟨_, rfl⟩
 obtain ⟨B, hB⟩ : ∃ B, B = T / 136 := ⟨_, rfl⟩
 rw [← hT] at hq1 hq2 ⊢
 rw [← hB]
 have hTB : T = 136 * B := by omega
 have hsq : (ByteArray.mk Q.toArray).size = T := by rw [hT]; simp [ByteArray.size]
 refine callsO gI0_ok Tryz.mix plSum Tryz.func56 rfl Tryz.ntmps56 Tryz.results56 rfl (by first | rfl | assumption) (Nat.le_of_ble_eq_true rfl) (by kernel_rfl) ?_
 simp only [push_cast, seval, reduceCtorEq, hsz, hl1, hl2]
 intro b4 hb4
 try simp only [push_cast, seval, reduceCtorEq, hsz, hl1, hl2]
 refine hpad.pure trivial ?_
 simp only [push_cast, seval, reduceCtorEq, hsq]
 intro bq c0 hbq hc
 have hbq4 : fresh bq M := hbq.2.2
 refine (chunk_ok (some ⟨bq, 0, none⟩) T c0).use trivial ?_
 rintro _ _ ⟨b2, b3, rfl, rfl, hne⟩
 refine ⟨⟨trivial, trivial, trivial⟩, rfl, fun hfn => ?_⟩
 simp only [push_cast, seval, reduceCtorEq] at hfn
 try simp only [push_cast, seval, reduceCtorEq, hbq, hfn]
 have hne2 : ¬ b2 = b3 := fun h => hne h.symm
 refine rangeO gI0_ok (pl := plSum) Tryz.mix (Hc := [⟨b3, 0, .cel 3, [.int .i64 136]⟩, ⟨b2, 0, .cel 101, [.slice (some ⟨bq, 0, none⟩) T c0]⟩]) (Hm := []) (chunk1_ok (b2 := b2) (b3 := b3) (bq := bq) (k2 := .cel 101) (k3 := .cel 3) hTB hc (by omega) rfl (by simp [findE, hne2]) (by simp [findE])) rfl
  (X := List Nat) (fun a => ⟨b4, 0, .cel 114, lnC a⟩ :: ⟨bq, 0, .ro, byteV Q⟩ :: M)
  (fun k a => a = sumS Q k) (fun _ _ => False) (List.replicate 25 0)
  rfl ?_ ?_ rfl (by simp) (fun s => ?_) (fun s u e he => ?_) chkV_one (by kernel_rfl) (by kernel_rfl) (fun _ _ h => h.elim) ?_ ?_ (fun _ _ _ _ h => h.elim)
 · simp only [push_cast, seval, reduceCtorEq, hbq, hfn, hne, hne2]
   exact rfl
 · simp [marksOf, hm]
 · simp [marksOf, hm]
 · rcases List.mem_cons.1 he with rfl | he
   · exact .inl trivial
   · exact .inr (List.mem_cons_of_mem _ he)
 · rintro lo k a args hk2 ha
   obtain ⟨hk1, rfl⟩ := chkV_at hk2
   have hal : Ln 25 a := ha ▸ sumS_ln Q k
   have hst : sumS Q (k + 1) = permK (abS a ((Q.drop (136 * k)).take 136) 17) := by rw [ha]; rfl
   obtain ⟨p, hp⟩ : ∃ p, p = 136 * k := ⟨_, rfl⟩
   rw [← hp] at hst ⊢
   obtain ⟨bl, hbl⟩ : ∃ bl, bl = (Q.drop p).take 136 := ⟨_, rfl⟩
   rw [← hbl] at hst
   have hpT : p + 136 ≤ Q.length := by omega
   simp only [push_cast, seval, reduceCtorEq, hbq]
   refine ⟨hm, ⟨List.mem_cons_of_mem _ (List.mem_cons_self ..), roSub_of fun e he => .inr (List.mem_cons_of_mem _ (List.mem_cons_of_mem _ he))⟩, ?_⟩
   refine loopO gI0_ok (pl := plSum) Tryz.mix (X := Nat)
    (fun i => ([(4, .pointer (some ⟨b4, 0, none⟩)), (5, .slice (some ⟨bq, p, none⟩) 136 136), (17, .int .i64 i)], ⟨b4, 0, .cel 114, lnC (abS a bl i)⟩ :: ⟨bq, 0, .ro, byteV Q⟩ :: M))
    (fun i => i ≤ 17) (fun i => 17 - i) 0 ?_ ?_ (by kernel_rfl) ?_
   · exact Nat.zero_le _
   · simp only [push_cast, seval, reduceCtorEq, hbq]
     exact rfl
   · intro i hi
     have hA := abS_ln hal bl i
     have hB := abS_ln hal bl 17
     by_cases hc17 : i < 17
     · have hsi : abS a bl (i + 1) = (abS a bl i).set i (xorN (ln (abS a bl i) i) (lowN ((bl.drop (8 * i)).take 8))) := rfl
       obtain ⟨A, hAe⟩ : ∃ A, A = abS a bl i := ⟨_, rfl⟩
       rw [← hAe] at hA hsi ⊢
       obtain ⟨u, hu⟩ : ∃ u, u = 8 * i := ⟨_, rfl⟩
       obtain ⟨w, hw⟩ : ∃ w, w = 8 * (i + 1) := ⟨_, rfl⟩
       have e8 := blk_part (Q := Q) (p := p) (u := u) (by omega)
       rw [← hbl] at e8
       rw [← hu, e8] at hsi
       have eu : IntKind.i64.wrap (8 * (i : Int)) = (u : Int) := by
        rw [show 8 * (i : Int) = (u : Int) by omega]; exact IntWalk.i64_in _ (by omega)
       have ew : IntKind.i64.wrap (8 * ((i : Int) + 1)) = (w : Int) := by
        rw [show 8 * ((i : Int) + 1) = (w : Int) by omega]; exact IntWalk.i64_in _ (by omega)
       have i1 : (i : Int) < 17 := by omega
       have i0 : (0 : Int) ≤ i := by omega
       have i25 : (i : Int) < 25 := by omega
       have i26 : i + 1 ≤ 25 := by omega
       have w0 : (0 : Int) ≤ w := by omega
       have w1 : (w : Int) ≤ 136 := by omega
       have w2 : w ≤ 136 := by omega
       have u0 : (0 : Int) ≤ u := by omega
       have u1 : (u : Int) ≤ w := by omega
       have u2 : u ≤ w := by omega
       have u3 : ¬ (136 = u) := by omega
       have u4 : w - u = 8 := by omega
       have lA := hA.cl
       have a1 := lnC_at (a := A) (i := i) (by rw [hA.len]; omega)
       simp only [push_cast, seval, reduceCtorEq, hbq, hc17, i1]
       refine drawO gI0_ok Tryz.mix (Tryz.pl56 9) (by kernel_rfl) ?_
       simp only [push_cast, seval, reduceCtorEq, hbq, hc17, i0, i1, i25, i26, lA, a1, eu, ew, wrap_i64' (show -9223372036854775808 ≤ (i : Int) + 1 ∧ (i : Int) + 1 ≤ 9223372036854775807 by omega), w0, w1, w2, u0, u1, u2, u3, u4, Int.toNat_natCast]
       refine takeI [_] (low_R (byV_part (kd := .ro) (M := ⟨bq, 0, .ro, byteV Q⟩ :: M) (Q := Q) (o := p + u) (n := 8) (k := 136 - u) (by simp [findE]) (by omega)) (by rw [List.length_take]; omega)) ⟨⟨hbq.2.1, hbq.1, hb4⟩, trivial⟩ ?_
       have hlo := low8_lt (Q.drop (p + u))
       obtain ⟨x, hx⟩ : ∃ x, x = lowN ((Q.drop (p + u)).take 8) := ⟨_, rfl⟩
       rw [← hx] at hlo hsi ⊢
       have a3 := xor_u64 (hA.at i) hlo
       have a4 := lnC_set (a := A) (i := i) (x := xorN (ln A i) x) (by rw [hA.len]; omega)
       simp only [push_cast, seval, reduceCtorEq, hbq, hc17, i0, i1, i25, i26, lA, a3, a4, wrap_i64' (show -9223372036854775808 ≤ (i : Int) + 1 ∧ (i : Int) + 1 ≤ 9223372036854775807 by omega)]
       exact ⟨i + 1, hc17, by omega, rfl, by rw [hsi]⟩
     · obtain rfl : i = 17 := by omega
       have i1 : ¬ ((17 : Nat) : Int) < 17 := by omega
       simp only [push_cast, seval, reduceCtorEq, hbq, hc17, i1, hA.cl, lnC_take hA]
       refine useP [_, _] (perm_R hB hk) ⟨hb4, hbq4, trivial⟩ ?_
       rw [← hst]
       have hS := sumS_ln Q (k + 1)
       simp only [push_cast, seval, reduceCtorEq, hbq, hB.cl, hS.cl, lnC_one, lnC_drop hB, List.append_nil]
       exact ⟨_, rfl, rfl⟩
 · intro D a hD ha
   simp only [push_cast, seval, reduceCtorEq] at hD
   have ha : a = sumS Q B := by rw [← chkV_len bq B]; exact ha
   have hal : Ln 25 a := ha ▸ sumS_ln Q B
   rw [← ha]
   simp only [push_cast, seval, reduceCtorEq, hbq, hD]
   refine ⟨by unfold two47; decide, ?_⟩
   intro b7 hb7
   refine loopO gI0_ok (pl := plSum) Tryz.mix (X := Nat)
    (fun i => ([(4, .pointer (some ⟨b4, 0, none⟩)), (7, .slice (some ⟨b7, 0, none⟩) 32 32), (38, .int .i64 32), (39, .int .i64 i)], ⟨b7, 0, .vec 5 1 32, byteV (ouS a i)⟩ :: ⟨D, 0, .obj (.deferred (some [])), []⟩ :: ⟨b4, 0, .cel 114, lnC a⟩ :: ⟨bq, 0, .ro, byteV Q⟩ :: M))
    (fun i => i ≤ 32) (fun i => 32 - i) 0 ?_ ?_ (by kernel_rfl) ?_
   · exact Nat.zero_le _
   · simp only [push_cast, seval, reduceCtorEq, hbq, hD, hb7]
     exact rfl
   · intro i hi
     have hol := ouS_len a i
     by_cases hc32 : i < 32
     · have hsi : ouS a (i + 1) = (ouS a i).set i (UInt8.ofNat (ln a (i / 8) / 256 ^ (i % 8) % 256)) := rfl
       obtain ⟨o, ho⟩ : ∃ o, o = ouS a i := ⟨_, rfl⟩
       rw [← ho] at hol hsi ⊢
       obtain ⟨q, hq⟩ : ∃ q, q = i / 8 := ⟨_, rfl⟩
       obtain ⟨r, hr⟩ : ∃ r, r = i % 8 := ⟨_, rfl⟩
       rw [← hq, ← hr] at hsi
       have r8 : r < 8 := by omega
       have o8 := octet8 (hal.at q) r8
       obtain ⟨v, hv⟩ : ∃ v, v = ln a q / 256 ^ r % 256 := ⟨_, rfl⟩
       rw [← hv] at o8 hsi
       have hv2 : (UInt8.ofNat v).toNat = v := by
        have : v < 256 := by rw [hv]; exact Nat.mod_lt _ (by decide)
        simp [Nat.mod_eq_of_lt this]
       have et : (i : Int).tmod 8 = (r : Int) := by rw [Int.tmod_eq_emod_of_nonneg (by omega)]; omega
       have eq2 : (i : Int).tdiv 8 = (q : Int) := by rw [Int.tdiv_eq_ediv_of_nonneg (by omega)]; omega
       have i1 : (i : Int) < 32 := by omega
       have i0 : (0 : Int) ≤ i := by omega
       have i3 : i + 1 ≤ 32 := by omega
       have q0 : (0 : Int) ≤ q := by omega
       have q1 : (q : Int) < 25 := by omega
       have q2 : q + 1 ≤ 25 := by omega
       have r0 : ¬ (8 * (r : Int) < 0) := by omega
       have lo : (byteV o).length = 32 := by rw [byV_len, hol]
       have a1 := lnC_at (a := a) (i := q) (by rw [hal.len]; omega)
       have a2 := byV_set (a := o) (i := i) (x := UInt8.ofNat v) (by rw [hol]; exact hc32)
       rw [hv2, ← hsi] at a2
       simp only [push_cast, seval, reduceCtorEq, hbq, hD, hb7, hc32, i0, i1, i3, q0, q1, q2, et, eq2, wrap_i64' (show -9223372036854775808 ≤ (q : Int) ∧ (q : Int) ≤ 9223372036854775807 by omega), wrap_i64' (show -9223372036854775808 ≤ 8 * (r : Int) ∧ 8 * (r : Int) ≤ 9223372036854775807 by omega), r0, hal.cl, a1, o8, lo, a2, wrap_i64' (show -9223372036854775808 ≤ (i : Int) + 1 ∧ (i : Int) + 1 ≤ 9223372036854775807 by omega)]
       exact ⟨i + 1, hc32, by omega, rfl, rfl⟩
     · obtain rfl : i = 32 := by omega
       have i1 : ¬ ((32 : Nat) : Int) < 32 := by omega
       have lo : (byteV (ouS a 32)).length = 32 := by rw [byV_len, hol]
       simp only [push_cast, seval, reduceCtorEq, hbq, hD, hb7, hc32, i1, lo, (List.take_of_length_le (Nat.le_of_eq lo) : List.take 32 (byteV (ouS a 32)) = _), bytesOf_byteV]
end Go.Proofs.YtpcjmmdgopihcaaGreatDoor
namespace Go.Ev
def bt (x z : Nat) : Nat := x / 2 ^ z % 2
theorem bt_lt (x z : Nat) : bt x z < 2 := Nat.mod_lt _ (by decide)
theorem bt_tb (x z : Nat) : bt x z = (x.testBit z).toNat := by
 unfold bt
 rw [Nat.testBit_eq_decide_div_mod_eq]
 rcases Nat.mod_two_eq_zero_or_one (x / 2 ^ z) with h | h <;> rw [h] <;> rfl
theorem bt_xor (x y z : Nat) : bt (xorN x y) z = (bt x z + bt y z) % 2 := by
 rw [bt_tb, bt_tb, bt_tb, xorN_eq, Nat.testBit_xor]
 cases x.testBit z <;> cases y.testBit z <;> rfl
theorem bt_zero (z : Nat) : bt 0 z = 0 := by unfold bt; rw [Nat.zero_div]
theorem bt_rot {x k z : Nat} (hx : x < 18446744073709551616) (hk : k < 64) (hz : z < 64) : bt (rot x k) z = bt x ((z + (64 - k)) % 64) := by
 rw [bt_tb, bt_tb, rot_eq, Nat.testBit_or, show (18446744073709551616 : Nat) = 2 ^ 64 from rfl, Nat.testBit_mod_two_pow, Nat.testBit_mul_two_pow, Nat.testBit_div_two_pow]
 by_cases h : k ≤ z
 · have h1 : x.testBit (64 - k + z) = false := Nat.testBit_lt_two_pow (Nat.lt_of_lt_of_le hx (show 2 ^ 64 ≤ 2 ^ (64 - k + z) from Nat.pow_le_pow_right (by decide) (by omega)))
   rw [Nat.add_comm z (64 - k), h1, show (64 - k + z) % 64 = z - k by omega]
   simp [h, hz]
 · rw [show (z + (64 - k)) % 64 = 64 - k + z by omega]
   simp [h, Nat.add_comm]
theorem bt_an {x y z : Nat} (hy : y < 18446744073709551616) (hz : z < 64) : bt (anN x y) z = (bt y z + 1) % 2 * bt x z := by
 rw [bt_tb, bt_tb, bt_tb, anN_eq, Nat.testBit_and, show 18446744073709551615 - y = 2 ^ 64 - (y + 1) by omega, Nat.testBit_two_pow_sub_succ (by simpa using hy)]
 cases x.testBit z <;> cases y.testBit z <;> simp [hz]
def lb (a : List Nat) (p : Nat) : Nat := bt (ln a (p / 64)) (p % 64)
theorem ln_set {a : List Nat} {i j v : Nat} (h : i < a.length) : ln (a.set i v) j = if j = i then v else ln a j := by
 unfold ln
 rw [List.getD_eq_getElem?_getD, List.getD_eq_getElem?_getD, List.getElem?_set]
 by_cases hj : i = j
 · subst hj; simp [h]
 · rw [if_neg hj, if_neg (fun h => hj h.symm)]
def csB (a : List Nat) (x z : Nat) : Nat → Nat
 | 0 => 0
 | k + 1 => if k % 5 = x then (csB a x z k + bt (ln a k) z) % 2 else csB a x z k
theorem thC_bt {a : List Nat} (h : Ln 25 a) (x z : Nat) : ∀ k, bt (ln (thC a k) x) z = csB a x z k
 | 0 => by
   show bt (ln (List.replicate 5 0) x) z = 0
   have : ln (List.replicate 5 0) x = 0 := by
    unfold ln
    rw [List.getD_eq_getElem?_getD, List.getElem?_replicate]
    split <;> rfl
   rw [this, bt_zero]
 | k + 1 => by
   show bt (ln ((thC a k).set (k % 5) _) x) z = _
   rw [ln_set (by rw [(thC_ln h k).len]; omega), csB]
   by_cases hx : k % 5 = x
   · rw [if_pos hx, if_pos hx.symm, bt_xor, hx, thC_bt h x z k]
   · rw [if_neg hx, if_neg (fun h => hx h.symm), thC_bt h x z k]
def thCB (a : Nat → Nat) (q : Nat) : Nat := (a q + a (q + 320) + a (q + 640) + a (q + 960) + a (q + 1280)) % 2
theorem lb_at (a : List Nat) {j z : Nat} (hz : z < 64) : lb a (64 * j + z) = bt (ln a j) z := by
 unfold lb
 rw [show (64 * j + z) / 64 = j by omega, show (64 * j + z) % 64 = z by omega]
theorem thC_B {a : List Nat} (h : Ln 25 a) {x z : Nat} (hx : x < 5) (hz : z < 64) : bt (ln (thC a 25) x) z = thCB (lb a) (64 * x + z) := by
 rw [thC_bt h]
 unfold thCB
 rw [lb_at a hz, show 64 * x + z + 320 = 64 * (x + 5) + z by omega, show 64 * x + z + 640 = 64 * (x + 10) + z by omega, show 64 * x + z + 960 = 64 * (x + 15) + z by omega, show 64 * x + z + 1280 = 64 * (x + 20) + z by omega,
  lb_at a hz, lb_at a hz, lb_at a hz, lb_at a hz]
 rcases (by omega : x = 0 ∨ x = 1 ∨ x = 2 ∨ x = 3 ∨ x = 4) with rfl | rfl | rfl | rfl | rfl <;> simp [csB, Nat.add_mod]
theorem thA_at {a c : List Nat} (h : Ln 25 a) (hc : Ln 5 c) (j : Nat) : ∀ k, k ≤ 25 → ln (thA a c k) j = if j < k then xorN (ln a j) (xorN (ln c ((j % 5 + 4) % 5)) (rot (ln c ((j % 5 + 1) % 5)) 1)) else ln a j
 | 0, _ => rfl
 | k + 1, hk => by
   show ln ((thA a c k).set k _) j = _
   rw [ln_set (by rw [(thA_ln h hc k).len]; omega)]
   by_cases hj : j = k
   · subst hj
     rw [if_pos rfl, if_pos (Nat.lt_succ_self _), thA_at h hc j j (by omega), if_neg (Nat.lt_irrefl _)]
   · rw [if_neg hj, thA_at h hc j k (by omega)]
     by_cases h2 : j < k
     · rw [if_pos h2, if_pos (by omega)]
     · rw [if_neg h2, if_neg (by omega)]
def thB (a : Nat → Nat) (p : Nat) : Nat := (a p + (thCB a (64 * ((p / 64 % 5 + 4) % 5) + p % 64) + thCB a (64 * ((p / 64 % 5 + 1) % 5) + (p % 64 + 63) % 64))) % 2
theorem theta_B {a : List Nat} (h : Ln 25 a) {p : Nat} (hp : p < 1600) : lb (thetaK a) p = thB (lb a) p := by
 have hC := thC_ln h 25
 have hz : p % 64 < 64 := Nat.mod_lt _ (by decide)
 unfold thB
 rw [← thC_B h (Nat.mod_lt _ (by decide)) hz, ← thC_B h (Nat.mod_lt _ (by decide)) (Nat.mod_lt _ (by decide)), thetaK_eq]
 unfold lb
 rw [thA_at h hC _ 25 (by omega), if_pos (by omega), bt_xor, bt_xor, bt_rot (hC.at _) (by decide) hz]
 simp only [show 64 - 1 = 63 from rfl, Nat.add_mod, Nat.mod_mod]
def xyT : Nat → Nat × Nat
 | 0 => (1, 0)
 | t + 1 => ((xyT t).2, (2 * (xyT t).1 + 3 * (xyT t).2) % 5)
theorem xyT_lt : ∀ t, (xyT t).1 < 5 ∧ (xyT t).2 < 5
 | 0 => ⟨by decide, by decide⟩
 | t + 1 => ⟨(xyT_lt t).2, Nat.mod_lt _ (by decide)⟩
def tnT : Nat → List (Option (Nat × Nat))
 | 0 => (List.replicate 25 none).set 0 (some (0, 0))
 | t + 1 => (tnT t).set (5 * ((2 * (xyT t).1 + 3 * (xyT t).2) % 5) + (xyT t).2) (some (5 * (xyT t).2 + (xyT t).1, (t + 1) * (t + 2) / 2 % 64))
theorem tnT_len : ∀ t, (tnT t).length = 25
 | 0 => rfl
 | t + 1 => by
   show ((tnT t).set _ _).length = 25
   rw [List.length_set]; exact tnT_len t
noncomputable def tnV (a : List Nat) : Option (Nat × Nat) → Nat
 | none => 0
 | some (s, r) => rot (ln a s) r
theorem rot_0 {x : Nat} (hx : x < 18446744073709551616) : rot x 0 = x := by
 rw [rot_eq, Nat.pow_zero, Nat.mul_one, Nat.mod_eq_of_lt hx, Nat.div_eq_of_lt hx, Nat.or_zero]
theorem tnS_T {a : List Nat} (h : Ln 25 a) : ∀ t, (tnS a t).1 = (xyT t).1 ∧ (tnS a t).2.1 = (xyT t).2 ∧ ∀ j < 25, ln (tnS a t).2.2 j = tnV a ((tnT t).getD j none)
 | 0 => ⟨rfl, rfl, fun j hj => by
   show ln ((List.replicate 25 0).set 0 (ln a 0)) j = tnV a (((List.replicate 25 none).set 0 (some (0, 0))).getD j none)
   rw [ln_set (by decide)]
   by_cases h0 : j = 0
   · subst h0
     rw [if_pos rfl]
     exact (rot_0 (h.at 0)).symm
   · rw [if_neg h0, List.getD_eq_getElem?_getD, List.getElem?_set_ne (fun h => h0 h.symm), List.getElem?_replicate, if_pos hj]
     unfold ln
     rw [List.getD_eq_getElem?_getD, List.getElem?_replicate, if_pos hj]
     rfl⟩
 | t + 1 => by
   obtain ⟨h1, h2, h3⟩ := tnS_T h t
   obtain ⟨-, -, h4⟩ := tnS_ok h t
   obtain ⟨h5, h6⟩ := xyT_lt t
   refine ⟨h2, ?_, fun j hj => ?_⟩
   · show (2 * (tnS a t).1 + 3 * (tnS a t).2.1) % 5 = _
     rw [h1, h2]; rfl
   · show ln ((tnS a t).2.2.set (5 * ((2 * (tnS a t).1 + 3 * (tnS a t).2.1) % 5) + (tnS a t).2.1) (rot (ln a (5 * (tnS a t).2.1 + (tnS a t).1)) ((t + 1) * (t + 2) / 2 % 64))) j = tnV a (((tnT t).set (5 * ((2 * (xyT t).1 + 3 * (xyT t).2) % 5) + (xyT t).2) (some (5 * (xyT t).2 + (xyT t).1, (t + 1) * (t + 2) / 2 % 64))).getD j none)
     rw [h1, h2]
     have hk : 5 * ((2 * (xyT t).1 + 3 * (xyT t).2) % 5) + (xyT t).2 < 25 := by
      have := Nat.mod_lt (2 * (xyT t).1 + 3 * (xyT t).2) (show 5 > 0 by decide)
      omega
     obtain ⟨k, hk0⟩ : ∃ k, k = 5 * ((2 * (xyT t).1 + 3 * (xyT t).2) % 5) + (xyT t).2 := ⟨_, rfl⟩
     rw [← hk0] at hk ⊢
     rw [ln_set (by rw [h4.len]; exact hk), List.getD_eq_getElem?_getD, List.getElem?_set]
     by_cases hj2 : k = j
     · subst hj2
       rw [if_pos rfl, if_pos rfl, if_pos (by rw [tnT_len]; exact hk)]; rfl
     · rw [if_neg (fun h => hj2 h.symm), if_neg hj2, h3 j hj, List.getD_eq_getElem?_getD]
def rhT : Nat → List Nat
 | 0 => List.replicate 25 0
 | t + 1 => (rhT t).set (5 * (xyT t).2 + (xyT t).1) ((t + 1) * (t + 2) / 2 % 64)
def rhB (a : Nat → Nat) (p : Nat) : Nat := a (64 * (p / 64) + (p % 64 + (64 - (rhT 24).getD (p / 64) 0)) % 64)
def piB (a : Nat → Nat) (p : Nat) : Nat := a (64 * (5 * (p / 64 % 5) + (p / 64 % 5 + 3 * (p / 320)) % 5) + p % 64)
theorem turnT : ∀ j < 25, (tnT 24).getD j none = some (5 * (j % 5) + (j % 5 + 3 * (j / 5)) % 5, (rhT 24).getD (5 * (j % 5) + (j % 5 + 3 * (j / 5)) % 5) 0) ∧ (rhT 24).getD (5 * (j % 5) + (j % 5 + 3 * (j / 5)) % 5) 0 < 64 := by decide +kernel
theorem turn_B {a : List Nat} (h : Ln 25 a) {p : Nat} (hp : p < 1600) : lb (turnK a) p = piB (rhB (lb a)) p := by
 have hz : p % 64 < 64 := Nat.mod_lt _ (by decide)
 obtain ⟨h1, h2⟩ := turnT (p / 64) (by omega)
 unfold piB rhB
 rw [turnK_eq]
 unfold lb
 rw [(tnS_T h 24).2.2 _ (by omega), h1]
 rw [show p / 320 = p / 64 / 5 by omega]
 obtain ⟨s, hs⟩ : ∃ s, s = 5 * (p / 64 % 5) + (p / 64 % 5 + 3 * (p / 64 / 5)) % 5 := ⟨_, rfl⟩
 rw [← hs] at h2 ⊢
 rw [show (64 * s + p % 64) / 64 = s by omega, show (64 * s + p % 64) % 64 = p % 64 by omega]
 show bt (rot (ln a s) ((rhT 24).getD s 0)) (p % 64) = _
 obtain ⟨r, hr⟩ : ∃ r, r = (rhT 24).getD s 0 := ⟨_, rfl⟩
 rw [← hr] at h2 ⊢
 rw [bt_rot (h.at _) h2 hz]
 have h3 : (p % 64 + (64 - r)) % 64 < 64 := Nat.mod_lt _ (by decide)
 rw [show (64 * s + (p % 64 + (64 - r)) % 64) / 64 = s by omega, show (64 * s + (p % 64 + (64 - r)) % 64) % 64 = (p % 64 + (64 - r)) % 64 by omega]
def chB (a : Nat → Nat) (p : Nat) : Nat := (a p + (a (64 * (5 * (p / 320) + (p / 64 + 1) % 5) + p % 64) + 1) % 2 * a (64 * (5 * (p / 320) + (p / 64 + 2) % 5) + p % 64)) % 2
theorem chS_at {a : List Nat} (h : Ln 25 a) (j : Nat) : ∀ k, k ≤ 25 → ln (chS a k) j = if j < k then xorN (ln a j) (anN (ln a (5 * (j / 5) + (j % 5 + 2) % 5)) (ln a (5 * (j / 5) + (j % 5 + 1) % 5))) else 0
 | 0, _ => by
   show ln (List.replicate 25 0) j = 0
   unfold ln
   rw [List.getD_eq_getElem?_getD, List.getElem?_replicate]
   split <;> rfl
 | k + 1, hk => by
   show ln ((chS a k).set k _) j = _
   rw [ln_set (by rw [(chS_ln h k).len]; omega)]
   by_cases hj : j = k
   · subst hj
     rw [if_pos rfl, if_pos (Nat.lt_succ_self _)]
   · rw [if_neg hj, chS_at h j k (by omega)]
     by_cases h2 : j < k
     · rw [if_pos h2, if_pos (by omega)]
     · rw [if_neg h2, if_neg (by omega)]
theorem chi_B {a : List Nat} (h : Ln 25 a) {p : Nat} (hp : p < 1600) : lb (chiK a) p = chB (lb a) p := by
 have hz : p % 64 < 64 := Nat.mod_lt _ (by decide)
 unfold chB
 rw [lb_at _ hz, lb_at _ hz, chiK_eq]
 unfold lb
 rw [chS_at h _ 25 (by omega), if_pos (by omega), bt_xor, bt_an (h.at _) hz]
 rw [show p / 320 = p / 64 / 5 by omega, show (p / 64 % 5 + 2) % 5 = (p / 64 + 2) % 5 by omega, show (p / 64 % 5 + 1) % 5 = (p / 64 + 1) % 5 by omega]
def rcN (r : List Nat) : List Nat := [r.getD 7 0 % 2, r.getD 0 0, r.getD 1 0, r.getD 2 0, (r.getD 3 0 + r.getD 7 0) % 2, (r.getD 4 0 + r.getD 7 0) % 2, (r.getD 5 0 + r.getD 7 0) % 2, r.getD 6 0]
def rcR : Nat → List Nat
 | 0 => [1, 0, 0, 0, 0, 0, 0, 0]
 | t + 1 => rcN (rcR t)
def rcL (t : Nat) : List Nat := (List.range t).map fun k => (rcR k).getD 0 0
theorem rcL_len (t : Nat) : (rcL t).length = t := by unfold rcL; rw [List.length_map, List.length_range]
theorem rcL_s (t : Nat) : rcL (t + 1) = rcL t ++ [(rcR t).getD 0 0] := by unfold rcL; rw [List.range_succ, List.map_append]; rfl
def rcF : Nat → List Nat → List Nat → List Nat
 | 0, _, o => o.reverse
 | t + 1, r, o => rcF t (rcN r) (r.getD 0 0 :: o)
theorem rcF_eq : ∀ t s, rcF t (rcR s) (rcL s).reverse = rcL (s + t)
 | 0, s => by rw [rcF, List.reverse_reverse]; rfl
 | t + 1, s => by
   rw [rcF, show (rcR s).getD 0 0 :: (rcL s).reverse = (rcL (s + 1)).reverse by rw [rcL_s, List.reverse_append]; rfl]
   have := rcF_eq t (s + 1)
   rw [show s + (t + 1) = s + 1 + t by omega, ← this]; rfl
def rcV : List Nat := rcF 168 [1, 0, 0, 0, 0, 0, 0, 0] []
theorem rcV_eq : rcL 168 = rcV := by
 have := rcF_eq 168 0
 rw [Nat.zero_add] at this
 exact this.symm
theorem rcV_lt : ∀ x ∈ rcV, x < 2 := by decide +kernel
def ioB (i p : Nat) : Nat := if p < 64 ∧ (p + 1 = 1 ∨ p + 1 = 2 ∨ p + 1 = 4 ∨ p + 1 = 8 ∨ p + 1 = 16 ∨ p + 1 = 32 ∨ p + 1 = 64) then rcV.getD (7 * i + (p + 1).log2) 0 else 0
theorem cons_B : ∀ i < 24, ∀ z < 64, bt (ln consK i) z = ioB i z := by decide +kernel
def tab (n : Nat) (g : Nat → Nat) : List Nat := (List.range n).map g
theorem tab_len (n : Nat) (g : Nat → Nat) : (tab n g).length = n := by unfold tab; rw [List.length_map, List.length_range]
theorem tab_get {n : Nat} {g : Nat → Nat} {p : Nat} (h : p < n) : (tab n g)[p]? = some (g p) := by
 unfold tab
 rw [List.getElem?_map, List.getElem?_range h]; rfl
theorem tab_ln {n : Nat} {g : Nat → Nat} {p : Nat} (h : p < n) : ln (tab n g) p = g p := by
 unfold ln
 rw [List.getD_eq_getElem?_getD, tab_get h]; rfl
theorem tab_congr {n : Nat} {g g' : Nat → Nat} (h : ∀ p < n, g p = g' p) : tab n g = tab n g' :=
 List.map_congr_left fun p hp => h p (List.mem_range.1 hp)
theorem tab_of {n : Nat} {l : List Nat} (h : l.length = n) {g : Nat → Nat} (hg : ∀ p < n, ln l p = g p) : l = tab n g := by
 apply List.ext_getElem?
 intro p
 by_cases hp : p < n
 · rw [tab_get hp, ← hg p hp]
   unfold ln
   rw [List.getD_eq_getElem?_getD, List.getElem?_eq_getElem (by omega)]; rfl
 · rw [List.getElem?_eq_none (by omega), List.getElem?_eq_none (by rw [tab_len]; omega)]
theorem tab_set {n : Nat} {g : Nat → Nat} {p x : Nat} : (tab n g).set p x = tab n (fun q => if q = p then x else g q) := by
 by_cases hp : p < n
 · refine tab_of (by rw [List.length_set, tab_len]) fun q hq => ?_
   rw [ln_set (by rw [tab_len]; exact hp), tab_ln hq]
 · rw [List.set_eq_of_length_le (by rw [tab_len]; omega)]
   exact tab_congr fun q hq => by rw [if_neg (by omega)]
theorem tab_s (n : Nat) (g : Nat → Nat) : tab (n + 1) g = tab n g ++ [g n] := by
 unfold tab
 rw [List.range_succ, List.map_append]; rfl
theorem lb_lt (a : List Nat) (p : Nat) : lb a p < 2 := bt_lt _ _
theorem thCB_lt (a : Nat → Nat) (p : Nat) : thCB a p < 2 := Nat.mod_lt _ (by decide)
theorem theta_T {a : List Nat} (h : Ln 25 a) : tab 1600 (thB (lb a)) = tab 1600 (lb (thetaK a)) := tab_congr fun _ hp => (theta_B h hp).symm
theorem turn_T {a : List Nat} (h : Ln 25 a) : tab 1600 (piB (rhB (lb a))) = tab 1600 (lb (turnK a)) := tab_congr fun _ hp => (turn_B h hp).symm
theorem chi_T {a : List Nat} (h : Ln 25 a) : tab 1600 (chB (lb a)) = tab 1600 (lb (chiK a)) := tab_congr fun _ hp => (chi_B h hp).symm
def ioS (l : List Nat) (i : Nat) : Nat → List Nat
 | 0 => l
 | j + 1 => (ioS l i j).set (2 ^ j - 1) ((ln (ioS l i j) (2 ^ j - 1) + ln rcV (j + 7 * i)) % 2)
theorem ioS_len (l : List Nat) (i : Nat) : ∀ j, (ioS l i j).length = l.length
 | 0 => rfl
 | j + 1 => by
   show ((ioS l i j).set _ _).length = _
   rw [List.length_set]; exact ioS_len l i j
theorem ioS_at (l : List Nat) (i p : Nat) (hl : l.length = 1600) : ∀ j, j ≤ 7 → ln (ioS l i j) p = if p < 64 ∧ p + 1 = 2 ^ (p + 1).log2 ∧ (p + 1).log2 < j then (ln l p + ln rcV ((p + 1).log2 + 7 * i)) % 2 else ln l p
 | 0, _ => by rw [if_neg (by omega)]; rfl
 | j + 1, hj => by
   have h2 : 2 ^ j ≤ 2 ^ 6 := Nat.pow_le_pow_right (by decide) (by omega)
   have h0 : 0 < 2 ^ j := Nat.pow_pos (by decide)
   show ln ((ioS l i j).set _ _) p = _
   rw [ln_set (by rw [ioS_len, hl]; omega)]
   by_cases hp : p = 2 ^ j - 1
   · have e1 : p + 1 = 2 ^ j := by omega
     have e2 : (p + 1).log2 = j := by rw [e1]; exact Nat.log2_two_pow
     rw [if_pos hp, ← hp, ioS_at l i p hl j (by omega), e2, if_neg (by omega), if_pos ⟨by omega, e1, by omega⟩]
   · rw [if_neg hp, ioS_at l i p hl j (by omega)]
     by_cases h3 : p < 64 ∧ p + 1 = 2 ^ (p + 1).log2 ∧ (p + 1).log2 < j
     · rw [if_pos h3, if_pos ⟨h3.1, h3.2.1, by omega⟩]
     · rw [if_neg h3, if_neg fun ⟨g1, g2, g3⟩ => h3 ⟨g1, g2, by
        rcases Nat.lt_or_ge (p + 1).log2 j with h | h
        · exact h
        · exfalso; apply hp; rw [show (p + 1).log2 = j by omega] at g2; omega⟩]
theorem ioB_eq : ∀ p < 64, (p + 1 = 1 ∨ p + 1 = 2 ∨ p + 1 = 4 ∨ p + 1 = 8 ∨ p + 1 = 16 ∨ p + 1 = 32 ∨ p + 1 = 64) ↔ (p + 1 = 2 ^ (p + 1).log2 ∧ (p + 1).log2 < 7) := by decide +kernel
theorem iota_T {a : List Nat} (h : Ln 25 a) {i : Nat} (hi : i < 24) : ioS (tab 1600 (lb a)) i 7 = tab 1600 (lb (a.set 0 (xorN (ln a 0) (ln consK i)))) := by
 refine tab_of (by rw [ioS_len, tab_len]) fun p hp => ?_
 rw [ioS_at _ i p (tab_len _ _) 7 (by omega), tab_ln hp]
 unfold lb
 rw [ln_set (by rw [h.len]; decide)]
 by_cases h0 : p / 64 = 0
 · have hp64 : p < 64 := by omega
   rw [if_pos h0, bt_xor, cons_B i hi _ (by omega), h0, show p % 64 = p by omega]
   unfold ioB
   by_cases hq : (p + 1 = 1 ∨ p + 1 = 2 ∨ p + 1 = 4 ∨ p + 1 = 8 ∨ p + 1 = 16 ∨ p + 1 = 32 ∨ p + 1 = 64)
   · rw [if_pos ⟨hp64, (ioB_eq p hp64).1 hq⟩, if_pos ⟨hp64, hq⟩, Nat.add_comm (7 * i)]; rfl
   · rw [if_neg fun g => hq ((ioB_eq p hp64).2 g.2), if_neg fun g => hq g.2, Nat.add_zero, Nat.mod_eq_of_lt (bt_lt _ _)]
 · rw [if_neg h0, if_neg (by omega)]
end Go.Ev
namespace Go.Ev
def moreL (n : Nat) : List UInt8 := ((List.replicate n 0).set 0 1).set (n - 1) (((List.replicate n 0).set 0 1).getD (n - 1) 0 + 128)
theorem moreL_len (n : Nat) : (moreL n).length = n := by unfold moreL; rw [List.length_set, List.length_set, List.length_replicate]
theorem more_pad (l : List UInt8) : l ++ moreL (136 - l.length % 136) = padK l := by
 unfold padK padJ_many
 obtain ⟨J, hJ⟩ : ∃ J, J = (136 - (l.length + 1) % 136) % 136 := ⟨_, rfl⟩
 rw [← hJ, show 136 - l.length % 136 = J + 1 by omega]
 unfold orL padJ moreL
 rw [List.length_append, List.length_cons, List.length_replicate, show l.length + (J + 1) - 1 = l.length + J by omega, List.set_append_right _ _ (by omega), show J + 1 - 1 = J by omega, Nat.add_sub_cancel_left, List.replicate_succ, List.set_cons_zero]
 congr 2
 have e : (l ++ 1 :: List.replicate J (0 : UInt8)).getD (l.length + J) 0 = (1 :: List.replicate J (0 : UInt8)).getD J 0 := by
  rw [List.getD_eq_getElem?_getD, List.getElem?_append_right (by omega), Nat.add_sub_cancel_left, ← List.getD_eq_getElem?_getD]
 rw [e]
 cases J with
 | zero => rfl
 | succ j =>
   have : (1 :: List.replicate (j + 1) (0 : UInt8)).getD (j + 1) 0 = 0 := by
    rw [List.getD_eq_getElem?_getD, List.getElem?_cons_succ, List.getElem?_replicate]
    split <;> rfl
   rw [this]; rfl
theorem low_back {Q : List UInt8} {m c : Nat} (h : m < Q.length) : lowN ((Q.drop m).take (c + 1)) = (Q.getD m 0).toNat + 256 * lowN ((Q.drop (m + 1)).take c) := by
 rw [List.drop_eq_getElem_cons h, List.take_succ_cons, List.getD_eq_getElem?_getD, List.getElem?_eq_getElem h]
 rfl
noncomputable def ouL (a : List Nat) (k : Nat) : List UInt8 := (List.range k).map fun i => UInt8.ofNat (ln a (i / 8) / 256 ^ (i % 8) % 256)
theorem ouL_len (a : List Nat) (k : Nat) : (ouL a k).length = k := by unfold ouL; rw [List.length_map, List.length_range]
theorem ouL_s (a : List Nat) (k : Nat) : ouL a (k + 1) = ouL a k ++ [UInt8.ofNat (ln a (k / 8) / 256 ^ (k % 8) % 256)] := by
 unfold ouL
 rw [List.range_succ, List.map_append]; rfl
theorem ouS_at (a : List Nat) (j : Nat) : ∀ k, k ≤ 32 → (ouS a k).getD j 0 = if j < k then UInt8.ofNat (ln a (j / 8) / 256 ^ (j % 8) % 256) else 0
 | 0, _ => by
   show (List.replicate 32 (0 : UInt8)).getD j 0 = 0
   rw [List.getD_eq_getElem?_getD, List.getElem?_replicate]
   split <;> rfl
 | k + 1, hk => by
   show ((ouS a k).set k _).getD j 0 = _
   rw [List.getD_eq_getElem?_getD, List.getElem?_set]
   by_cases hj : k = j
   · subst hj
     rw [if_pos rfl, if_pos (by rw [ouS_len]; omega), if_pos (Nat.lt_succ_self _)]; rfl
   · rw [if_neg hj, ← List.getD_eq_getElem?_getD, ouS_at a j k (by omega)]
     by_cases h2 : j < k
     · rw [if_pos h2, if_pos (by omega)]
     · rw [if_neg h2, if_neg (by omega)]
theorem ouL_32 (a : List Nat) : ouL a 32 = ouS a 32 := by
 apply List.ext_getElem?
 intro j
 by_cases hj : j < 32
 · have h := ouS_at a j 32 (by omega)
   rw [if_pos hj] at h
   rw [List.getElem?_eq_getElem (by rw [ouL_len]; exact hj), List.getElem?_eq_getElem (by rw [ouS_len]; exact hj)]
   rw [List.getD_eq_getElem?_getD, List.getElem?_eq_getElem (by rw [ouS_len]; exact hj)] at h
   rw [show (ouS a 32)[j]'(by rw [ouS_len]; exact hj) = _ from h]
   unfold ouL
   rw [List.getElem_map, List.getElem_range]
 · rw [List.getElem?_eq_none (by rw [ouL_len]; omega), List.getElem?_eq_none (by rw [ouS_len]; omega)]
theorem hv_s (x z : Nat) : x / 2 ^ z = 2 * (x / 2 ^ (z + 1)) + bt x z := by
 unfold bt
 rw [Nat.pow_succ, ← Nat.div_div_eq_div_mul]
 omega
theorem hv_t (x z : Nat) : x / 2 ^ (z + 1) = x / 2 ^ z / 2 := by rw [Nat.pow_succ, ← Nat.div_div_eq_div_mul]
theorem hv_64 {x : Nat} (h : x < 18446744073709551616) : x / 2 ^ 64 = 0 := Nat.div_eq_of_lt h
end Go.Ev
