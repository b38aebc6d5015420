/-
  The closed facts of the row, one by one: whom the function comes to; that none comes to itself.
-/
import Derived.Test.YfwaawGreatRows
import Derived.ProofKit
namespace Go.Proofs.YfwaawGreat
set_option maxRecDepth 100000

def clos3 : List FuncId := [3, 11, 20, 33, 21, 34, 59, 36, 64, 35, 60, 61, 62, 63, 124, 125, 126, 38, 37, 22, 10, 18, 27, 28, 55, 19, 25, 54, 53, 118, 121, 40, 222, 65, 70, 127, 244, 71, 66, 67, 128, 69, 140, 192, 144, 72, 129, 130, 216, 107, 146, 253, 254, 251, 136, 250, 246, 247, 207, 208, 252, 68, 245, 209, 278, 358, 359, 210, 249, 141, 193, 142, 194, 143, 195, 74, 132, 248, 360, 81, 145, 223, 75, 133, 76, 134, 224, 73, 131, 290, 170, 48, 114, 225, 291, 375, 376, 377, 402, 403, 39, 77, 135, 137, 79, 138, 139, 226, 82, 147, 256, 255, 148, 149, 150, 293, 292, 227, 294, 180, 295, 181, 296, 182, 297, 183, 298, 184, 299, 185, 279, 78, 300, 186, 302, 301, 303, 103, 197, 198, 378, 99, 196, 379, 105, 211, 304, 380, 381, 382, 284, 285, 108, 212, 305, 306, 307, 111, 308, 113, 309, 122, 228, 155, 188, 214, 271, 259, 215, 164, 286, 257, 258, 274, 260, 273, 362, 370, 217, 206, 166, 371, 272, 156, 189, 157, 190, 165, 158, 191, 280, 372, 84, 152, 261, 361, 88, 229, 85, 153, 86, 154, 230, 83, 151, 310, 49, 115, 231, 311, 383, 89, 13, 14, 92, 168, 265, 363, 266, 267, 268, 269, 364, 365, 366, 367, 368, 369, 159, 91, 116, 167, 264, 90, 161, 160, 262, 163, 162, 263, 312, 232, 94, 117, 171, 218, 169, 270, 313, 233, 314, 172, 315, 173, 275, 316, 174, 317, 175, 276, 318, 176, 319, 177, 277, 320, 178, 321, 322, 104, 199, 201, 281, 282, 283, 373, 202, 200, 100, 106, 323, 109, 213, 179, 324, 101, 203, 102, 204, 205, 325, 93, 326, 327, 110, 328, 112, 329, 123, 234, 235, 330, 384, 404, 385, 405, 331, 386, 406, 387, 407, 236, 332, 388, 408, 420, 333, 334, 335, 336, 337, 237, 338, 389, 390, 238, 339, 340, 341, 342, 239, 343, 344, 345, 240, 347, 346, 241, 348, 242, 349, 243, 350, 391, 409, 421, 351, 392, 410, 422, 434, 435, 429, 430, 444, 446, 448, 451, 452, 453, 454, 455, 445, 428, 442, 443, 447, 450, 393, 411, 423, 412, 424, 436, 437, 413, 425, 438, 439, 426, 440, 441, 449, 414, 415, 427, 352, 394, 416, 353, 395, 417, 431, 354, 396, 397, 398, 399, 355, 400, 418, 432, 401, 419, 433, 356, 357, 52, 30, 29, 56, 57, 31, 58, 26, 32]
theorem clos3_eq : Hfaa.prog.closure 3 = clos3 := by kernel_rfl

/-- A rank for every function on the road, none for the others. -/
def rkN : Nat := 0x401050601020507020203020401060108010301080103030403010501070904020901010404050602080a05030a020202010201010105050404040406070b0b040303030302030202010101020102010100010102020102020101020101010502010907060507080c05050604040203030404040404040404040404040408060809080903070b0908080808080a05060302090809090903090a010b0b090909090902050302000000050102020103020901050301020702080103030203050501010301030101050303020503030606030306010d0609090405050505060c06090701060c0c0a09010600000001010606060808010105040501050101020501050507010808090807070a09000a0a080808080807080707070707090101020606010101010201020108080b0a070707050a01060604010609090a09040301070808080707040303030101010e0d0d00000f02010708070508070909050507060806080608000000000307070703080500080808060b0700050809090908080502020304040504020302020201010f020311100200000809000000000000000101020103040201010201100601121200000205021307000000010100061400000000000015000000
def rk (i : Nat) : Nat := (rkN >>> (8 * i)) % 256
def lead (P : Program) (g : FuncId) : List FuncId := (P.funcs[g]?).elim [] P.leadsTo
theorem rk_falls : ((List.range 474).all fun g => Nat.beq (rk g) 0 || (lead Hfaa.prog g).all fun h => Nat.blt 0 (rk h) && Nat.blt (rk h) (rk g)) = true := by kernel_rfl
theorem rk_all : (clos3.all fun g => Nat.blt 0 (rk g) && Nat.blt g 474) = true := by kernel_rfl
set_option exponentiation.threshold 5000 in
theorem rk_out (g : Nat) (h : 474 ≤ g) : rk g = 0 := by
  unfold rk
  rw [Nat.shiftRight_eq_div_pow, Nat.div_eq_of_lt]
  exact Nat.lt_of_lt_of_le (show rkN < 2 ^ (8 * 474) by decide +kernel) (Nat.pow_le_pow_right (by decide) (by omega))
theorem unf3 : Hfaa.prog.unfollowed 3 = false := by
  unfold Program.unfollowed
  rw [clos3_eq]
  kernel_rfl
theorem inp3 : Rows.towerRow.inPlace = Hfaa.prog.inPlace 3 := by
  unfold Program.inPlace
  rw [clos3_eq]
  kernel_rfl
theorem var3 : Rows.towerRow.named = Hfaa.prog.varsNamed 3 := by
  unfold Program.varsNamed
  rw [clos3_eq]
  kernel_rfl

theorem via_low {P : Program} {r : Nat} (hs : ∀ k, 0 < rk k → rk k ≤ r → ∀ h ∈ lead P k, 0 < rk h ∧ rk h ≤ r) : ∀ (n : Nat) (todo seen : List FuncId), (∀ k ∈ todo, 0 < rk k ∧ rk k ≤ r) → (∀ k ∈ seen, 0 < rk k ∧ rk k ≤ r) → ∀ k ∈ P.closureVia n todo seen, 0 < rk k ∧ rk k ≤ r
  | 0, _, seen, _, h2, k, hk => h2 k (by simpa [Program.closureVia] using hk)
  | n + 1, [], seen, _, h2, k, hk => h2 k (by simpa [Program.closureVia] using hk)
  | n + 1, f :: todo, seen, h1, h2, k, hk => by
    rw [Program.closureVia] at hk
    split at hk
    · exact via_low hs n todo seen (fun x hx => h1 x (List.mem_cons_of_mem _ hx)) h2 k hk
    · refine via_low hs n _ _ (fun x hx => ?_) (fun x hx => ?_) k hk
      · rcases List.mem_append.1 hx with hx | hx
        · exact hs f (h1 f (List.mem_cons_self ..)).1 (h1 f (List.mem_cons_self ..)).2 x hx
        · exact h1 x (List.mem_cons_of_mem _ hx)
      · rcases List.mem_cons.1 hx with rfl | hx
        · exact h1 x (List.mem_cons_self ..)
        · exact h2 x hx

theorem rk_step {k h : Nat} (hk : 0 < rk k) (hh : h ∈ lead Hfaa.prog k) : 0 < rk h ∧ rk h < rk k := by
  have hlt : k < 474 := by
    rcases Nat.lt_or_ge k 474 with h' | h'
    · exact h'
    · rw [rk_out k h'] at hk; omega
  have := List.all_eq_true.1 rk_falls k (List.mem_range.2 hlt)
  rw [Bool.or_eq_true] at this
  rcases this with h' | h'
  · have := Nat.eq_of_beq_eq_true h'; omega
  · have := List.all_eq_true.1 h' h hh
    simpa [Nat.blt_eq] using this

theorem rec3 : Hfaa.prog.recurses 3 = false := by
  unfold Program.recurses
  rw [unf3, Bool.false_or, clos3_eq]
  refine List.any_eq_false.2 fun g hg => ?_
  rw [Bool.not_eq_true]
  refine List.any_eq_false.2 fun h hh => ?_
  rw [Bool.not_eq_true]
  have hgr := List.all_eq_true.1 rk_all g hg
  simp only [Bool.and_eq_true, Nat.blt_eq] at hgr
  have hst := rk_step hgr.1 hh
  cases hc : (Hfaa.prog.closure h).contains g with
  | false => rfl
  | true =>
    exfalso
    have hm : g ∈ Hfaa.prog.closure h := by simpa using hc
    have := via_low (r := rk h) (fun k h1 h2 x hx => ⟨(rk_step h1 hx).1, by have := (rk_step h1 hx).2; omega⟩) _ [h] [] (fun k hk => by rw [List.mem_singleton] at hk; subst hk; exact ⟨hst.1, Nat.le_refl _⟩) (fun k hk => by cases hk) g hm
    omega
end Go.Proofs.YfwaawGreat
