/- chunk.piece and Decode: what they come to. -/
import Derived.Test.YtncffbocmpmejaaDoorPChunk
namespace Go.Proofs.YtncffbocmpmejaaDoor
open Go D
set_option linter.unusedVariables false
set_option linter.unusedSimpArgs false
namespace Chunk
open Hash (hexL hmacF sha256F hexB)

theorem seq_nil (l : List UInt8) : seq (ofL l) (⟨#[]⟩ : ByteArray) = decide (l = []) := by
  rw [seq_bl, bl_ofL]
  rw [Bool.eq_iff_iff, decide_eq_true_eq, decide_eq_true_eq]
  rfl
theorem eat_out (s b : List UInt8) : (eatF s b).2 = 0 ∨ (eatF s b).2 = 307 ∨ (eatF s b).2 = 308 := by
  unfold eatF
  split
  · exact .inl rfl
  · split
    · exact .inr (.inl rfl)
    · exact .inr (.inr rfl)

def endZ (R : ByteArray × ByteArray × ByteArray × Int → Heap → Prop) (size : Int) (s22 : ByteArray) (h24 : Heap) : Prop :=
  ssl s22 0 64 fun s25 =>
  ssl s22 64 (s22.size : Int) fun s26 =>
  CallT Tryd.prog chunk_eat_no [.string s26, .string (⟨#[13, 10]⟩ : ByteArray)] h24 [.sc (.str), .sc (.int .i64)] fun (r27 : ByteArray × Int) h28 =>
  cnd (r27.2 != 0) (
  R ((⟨#[]⟩ : ByteArray), (⟨#[]⟩ : ByteArray), (⟨#[]⟩ : ByteArray), r27.2) h28) (
  cnd (decide ((r27.1.size : Int) < size)) (
  R ((⟨#[]⟩ : ByteArray), (⟨#[]⟩ : ByteArray), (⟨#[]⟩ : ByteArray), 307) h28) (
  ssl r27.1 0 size fun s29 =>
  ssl r27.1 size (r27.1.size : Int) fun s30 =>
  CallT Tryd.prog chunk_eat_no [.string s30, .string (⟨#[13, 10]⟩ : ByteArray)] h28 [.sc (.str), .sc (.int .i64)] fun (r31 : ByteArray × Int) h32 =>
  withJ (σ := Int) (fun s33 h35 =>
  cnd (s33 != 0) (
  R ((⟨#[]⟩ : ByteArray), (⟨#[]⟩ : ByteArray), (⟨#[]⟩ : ByteArray), s33) h35) (
  R (s25, s29, r31.1, 0) h35)) (fun J34 =>
  withJ (σ := Bool) (fun s36 h38 =>
  cnd s36 (
  J34 308 h38) (
  J34 r31.2 h38)) (fun J37 =>
  cnd (r31.2 == 0) (
  cnd (size == 0) (
  J37 (!seq r31.1 (⟨#[]⟩ : ByteArray)) h32) (
  J37 false h32)) (
  J37 false h32)))))

theorem bne_nz {x : Int} (h : x ≠ 0) : (x != 0) = true := by simpa using h
theorem bne_z : ((0 : Int) != 0) = false := by simp

theorem endZ_spec {h : Heap} {rest : List UInt8} {size : Nat} (hr : 64 ≤ rest.length) {R : ByteArray × ByteArray × ByteArray × Int → Heap → Prop} (hk : R (outP (pz (rest.take 64) (rest.drop 64) size)) h) : endZ R (size : Int) (ofL rest) h := by
  unfold endZ
  have hsz := ofL_size rest
  refine ssl_bl (by omega) (by omega) (by omega) ?_
  refine ssl_bl (by omega) (by omega) (by omega) ?_
  rw [bl_ofL]
  have e1 : (rest.drop (0 : Int).toNat).take ((64 : Int).toNat - (0 : Int).toNat) = rest.take 64 := rfl
  have e2 : (rest.drop (64 : Int).toNat).take (((ofL rest).size : Int).toNat - (64 : Int).toNat) = rest.drop 64 := by
    show (rest.drop 64).take _ = _
    exact List.take_of_length_le (by rw [List.length_drop, Int.toNat_natCast, hsz]; exact Nat.le_refl _)
  rw [e1, e2]
  refine eat_spec ?_
  rw [bl_ofL, show bl (⟨#[13, 10]⟩ : ByteArray) = crL from rfl]
  unfold pz at hk
  generalize hf : eatF (rest.drop 64) crL = f at hk ⊢
  obtain ⟨fr, fe⟩ := f
  show cnd (fe != 0) _ _
  refine cnd_of (fun e => ?_) (fun e => ?_)
  · have e' : fe ≠ 0 := by simpa using e
    rw [if_pos e', outP_err] at hk
    exact hk
  · have e' : fe = 0 := by simpa using e
    subst e'
    rw [if_neg (by simp)] at hk
    show cnd (decide (((ofL fr).size : Int) < size)) _ _
    rw [ofL_size]
    refine cnd_dec (fun hlt => ?_) (fun hge => ?_)
    · rw [if_pos (show fr.length < size by omega), outP_err] at hk
      exact hk
    · rw [if_neg (show ¬ fr.length < size by omega)] at hk
      replace hk : R (outP (pz2 (rest.take 64) (fr.take size) size (eatF (fr.drop size) crL))) h := hk
      have hfs := ofL_size fr
      show ssl (ofL fr) 0 size fun s29 => ssl (ofL fr) size ((ofL fr).size : Int) fun s30 => _
      refine ssl_bl (by omega) (by omega) (by omega) ?_
      refine ssl_bl (by omega) (by omega) (by omega) ?_
      rw [bl_ofL]
      have e3 : (fr.drop (0 : Int).toNat).take ((size : Int).toNat - (0 : Int).toNat) = fr.take size := by simp
      have e4 : (fr.drop (size : Int).toNat).take (((ofL fr).size : Int).toNat - (size : Int).toNat) = fr.drop size := by
        rw [Int.toNat_natCast]
        exact List.take_of_length_le (by rw [List.length_drop, Int.toNat_natCast, hfs]; exact Nat.le_refl _)
      rw [e3, e4]
      refine eat_spec ?_
      rw [bl_ofL, show bl (⟨#[13, 10]⟩ : ByteArray) = crL from rfl]
      generalize eatF (fr.drop size) crL = g at hk ⊢
      obtain ⟨gr, ge⟩ := g
      unfold pz2 at hk
      refine withJ.intro (fun (c : Int) h2 => h2 = h ∧ c = if ge = 0 ∧ size = 0 ∧ gr ≠ [] then 308 else ge) ?_ ?_
      · rintro c h2 ⟨rfl, hc⟩
        replace hk : R (outP (if (if ge = 0 ∧ size = 0 ∧ gr ≠ [] then (308 : Int) else ge) ≠ 0 then errP (if ge = 0 ∧ size = 0 ∧ gr ≠ [] then 308 else ge) else (rest.take 64, fr.take size, gr, 0))) h2 := hk
        rw [← hc] at hk
        refine cnd_of (fun e => ?_) (fun e => ?_)
        · have e' : c ≠ 0 := by simpa using e
          rw [if_pos e', outP_err] at hk
          exact hk
        · have e' : c = 0 := by simpa using e
          rw [if_neg (by rw [e']; simp)] at hk
          exact hk
      · intro J hJ
        refine withJ.intro (fun (b : Bool) h2 => h2 = h ∧ b = decide (ge = 0 ∧ size = 0 ∧ gr ≠ [])) ?_ ?_
        · rintro b h2 ⟨rfl, hb⟩
          subst hb
          refine cnd_dec (fun e => ?_) (fun e => ?_)
          · exact hJ _ _ ⟨rfl, by rw [if_pos e]⟩
          · exact hJ _ _ ⟨rfl, by rw [if_neg e]⟩
        · intro J2 hJ2
          show cnd (ge == 0) _ _
          refine cnd_of (fun e => ?_) (fun e => ?_)
          · have e' : ge = 0 := by simpa using e
            refine cnd_of (fun e2 => ?_) (fun e2 => ?_)
            · have e2' : size = 0 := by simpa using e2
              refine hJ2 _ _ ⟨rfl, ?_⟩
              show (!seq (ofL gr) (⟨#[]⟩ : ByteArray)) = _
              rw [seq_nil, Bool.eq_iff_iff]
              simp [e', e2']
            · have e2' : size ≠ 0 := by simpa using e2
              exact hJ2 _ _ ⟨rfl, by rw [decide_eq_false (fun hh => e2' hh.2.1)]⟩
          · have e' : ge ≠ 0 := by simpa using e
            exact hJ2 _ _ ⟨rfl, by rw [decide_eq_false (fun hh => e' hh.1)]⟩

theorem piece_spec {h : Heap} {s : ByteArray} (hs : s.size ≤ 1000000000) {R : ByteArray × ByteArray × ByteArray × Int → Heap → Prop} (hk : ∀ h', Keep (fun _ => False) h h' → R (outP (pieceF (bl s))) h') : CallT Tryd.prog chunk_piece_no [.string s] h [.sc .str, .sc .str, .sc .str, .sc (.int .i64)] R := by
  apply chunk_piece_call
  unfold chunk_piece
  refine digits_spec (m := 8) (by omega) ?_
  have hn := runN_le 8 (bl s)
  have hdg : ∀ {i : Nat} {b : UInt8}, i < runN 8 (bl s) → (bl s)[i]? = some b → dg b = true := fun h1 h2 => runN_dg h1 h2
  unfold pieceF at hk
  generalize runN 8 (bl s) = n at hk hn hdg ⊢
  rw [bl_len] at hn
  refine ssl_bl (by omega) (by omega) (by omega) ?_
  have e1 : ((bl s).drop (0 : Int).toNat).take ((n : Int).toNat - (0 : Int).toNat) = (bl s).take n := by simp
  rw [e1]
  have hds : (ofL ((bl s).take n)).size = n := by rw [ofL_size, List.length_take, bl_len]; omega
  refine s2b_row (by omega) ?_
  intro cap h1 b1 k1 s1
  have hb1 := rb_s2b b1
  rw [bl_ofL, hds] at hb1
  rw [hds]
  have hall : ∀ (i : Nat) (b : UInt8), ((bl s).take n)[i]? = some b → dg b = true := fun i b e => by
    have hi := (List.getElem?_eq_some_iff.1 e).1
    rw [List.length_take] at hi
    rw [List.getElem?_take, if_pos (by omega)] at e
    exact hdg (by omega) e
  have hlen : ((bl s).take n).length = n := by rw [List.length_take, bl_len]; omega
  have hk' := hk h1 k1
  refine LoopT.intro (fun (t : Int × Int) h' => h' = h1 ∧ 0 ≤ t.2 ∧ t.2 ≤ n ∧ t.1 = ((valN (((bl s).take n).take t.2.toNat) : Nat) : Int)) (fun t _ => (n - t.2).toNat) ⟨rfl, by simp, by simp, by simp [valN]⟩ ?_
  rintro ⟨acc, i⟩ h2 ⟨rfl, p1, p2, p3⟩
  replace p1 : 0 ≤ i := p1
  replace p2 : i ≤ n := p2
  replace p3 : acc = ((valN (((bl s).take n).take i.toNat) : Nat) : Int) := p3
  refine cnd_dec (fun hi => ?_) (fun hi => ?_)
  · replace hi : i < (n : Int) := hi
    refine hb1.at p1 hi ?_
    intro b eb
    refine indexByte_spec ?_
    rw [show (⟨#[48, 49, 50, 51, 52, 53, 54, 55, 56, 57, 97, 98, 99, 100, 101, 102]⟩ : ByteArray) = hexT from rfl, ix_dg, if_pos (hall _ _ eb)]
    have v1 := valN_lt hall i.toNat (by omega)
    have v2 : (16 : Nat) ^ i.toNat ≤ 16 ^ 7 := Nat.pow_le_pow_right (by omega) (by omega)
    have v3 : (16 : Nat) ^ 7 = 268435456 := by decide
    have v4 : (2 : Nat) ^ 32 = 4294967296 := by decide
    subst p3
    show (h2 = h2 ∧ 0 ≤ w64 (i + 1) ∧ w64 (i + 1) ≤ n ∧ orI .i64 (shlI .i64 ((valN (((bl s).take n).take i.toNat) : Nat) : Int) 4) ((hv b : Nat) : Int) = ((valN (((bl s).take n).take (w64 (i + 1)).toNat) : Nat) : Int)) ∧ (n - w64 (i + 1)).toNat < (n - i).toNat
    rw [w64_id (x := i + 1) (by omega) (by omega), or_shift (x := valN (((bl s).take n).take i.toNat)) (d := hv b) (by omega) (hv_lt (hall _ _ eb)), show (i + 1).toNat = i.toNat + 1 by omega, List.take_add_one, eb]
    simp only [Option.toList_some]
    rw [valN_snoc]
    exact ⟨⟨by first | rfl | trivial, by omega, by omega, rfl⟩, by omega⟩
  · have hil : i = n := by
      have : ¬ i < (n : Int) := hi
      omega
    subst hil
    rw [Int.toNat_natCast, List.take_of_length_le (by omega)] at p3
    subst p3
    refine withJ.intro (fun _ h3 => h3 = h2 ∧ ¬ (n = 0 ∧ bl s ≠ [])) ?_ ?_
    · rintro _ h3 ⟨rfl, hne⟩
      rw [if_neg hne] at hk'
      refine ssl_bl (by omega) (by omega) (by omega) ?_
      have e5 : ((bl s).drop (n : Int).toNat).take ((s.size : Int).toNat - (n : Int).toNat) = (bl s).drop n := by
        rw [Int.toNat_natCast]
        exact List.take_of_length_le (by rw [List.length_drop, Int.toNat_natCast, bl_len]; exact Nat.le_refl _)
      rw [e5]
      refine eat_spec ?_
      rw [bl_ofL, show bl (⟨#[59, 99, 104, 117, 110, 107, 45, 115, 105, 103, 110, 97, 116, 117, 114, 101, 61]⟩ : ByteArray) = markL from rfl]
      generalize eatF ((bl s).drop n) markL = g at hk' ⊢
      obtain ⟨gr, ge⟩ := g
      show cnd (ge != 0) _ _
      refine cnd_of (fun e => ?_) (fun e => ?_)
      · have e' : ge ≠ 0 := by simpa using e
        rw [if_pos e', outP_err] at hk'
        exact hk'
      · have e' : ge = 0 := by simpa using e
        subst e'
        rw [if_neg (by simp)] at hk'
        replace hk' : R (outP (py gr (valN ((bl s).take n)))) h3 := hk'
        refine digits_spec (m := 64) (by omega) ?_
        rw [bl_ofL]
        unfold py at hk'
        have hm := runN_le 64 gr
        generalize runN 64 gr = k at hk' hm ⊢
        refine withJ.intro (fun (s22 : ByteArray) h4 => h4 = h3 ∧ s22 = ofL gr ∧ ¬ (k < 64 ∧ k < gr.length)) ?_ ?_
        · rintro s22 h4 ⟨rfl, rfl, hne2⟩
          rw [if_neg hne2] at hk'
          refine cnd_dec (fun hlt => ?_) (fun hge => ?_)
          · rw [if_pos (by omega), outP_err] at hk'
            exact hk'
          · rw [if_neg (by omega)] at hk'
            exact endZ_spec (by omega) hk'
        · intro J hJ
          refine withJ.intro (fun (b : Bool) h4 => h4 = h3 ∧ b = decide (k < 64 ∧ k < gr.length)) ?_ ?_
          · rintro b h4 ⟨rfl, rfl⟩
            refine cnd_dec (fun hyes => ?_) (fun hno => hJ _ _ ⟨rfl, rfl, hno⟩)
            rw [if_pos hyes, outP_err] at hk'
            exact hk'
          · intro J2 hJ2
            refine cnd_dec (fun hlt => ?_) (fun hge => ?_)
            · refine hJ2 _ _ ⟨rfl, ?_⟩
              show decide ((k : Int) < ((ofL gr).size : Int)) = _
              rw [ofL_size, Bool.eq_iff_iff]
              simp
              omega
            · exact hJ2 _ _ ⟨rfl, (decide_eq_false (fun hh => hge (by omega))).symm⟩
    · intro J hJ
      refine withJ.intro (fun (b : Bool) h4 => h4 = h2 ∧ b = decide (n = 0 ∧ bl s ≠ [])) ?_ ?_
      · rintro b h4 ⟨rfl, rfl⟩
        refine cnd_dec (fun hyes => ?_) (fun hno => hJ _ _ ⟨rfl, hno⟩)
        rw [if_pos hyes, outP_err] at hk'
        exact hk'
      · intro J2 hJ2
        refine cnd_of (fun e => ?_) (fun e => ?_)
        · have e' : n = 0 := by simpa using e
          refine hJ2 _ _ ⟨rfl, ?_⟩
          have := seq_nil (bl s)
          rw [ofL_bl] at this
          rw [this, Bool.eq_iff_iff]
          simp [e']
        · have e' : n ≠ 0 := by simpa using e
          exact hJ2 _ _ ⟨rfl, (decide_eq_false (fun hh => e' hh.1)).symm⟩
end Chunk
end Go.Proofs.YtncffbocmpmejaaDoor
