/-
  A part of the proof of FireMay: KClo. No condition.
-/
import Derived.Test.YthhbpkpnhpdeoaaGreatDoorKRowA
import Derived.JoinedOf
namespace Go.Proofs.YthhbpkpnhpdeoaaGreatDoor
open Go
/-- the functions that are reached, with a number's bits for the set of those that were met -/
noncomputable def cloM (e : Nat → List Nat) : Nat → List Nat → Nat → List Nat → List Nat
  | 0, _, _, seen => seen.reverse
  | _ + 1, [], _, seen => seen.reverse
  | n + 1, f :: todo, m, seen => match Nat.testBit m f with
    | true => cloM e n todo m seen
    | false => cloM e n (e f ++ todo) (m ||| 2 ^ f) (f :: seen)
theorem cloM_eq {P : Program} : ∀ (n : Nat) (todo : List Nat) (m : Nat) (seen : List Nat), (∀ f, f ∈ seen ↔ m.testBit f = true) →
    P.closureVia n todo seen = cloM (fun f => (P.funcs[f]?).elim [] P.leadsTo) n todo m seen
  | 0, _, _, _, _ => rfl
  | n + 1, [], _, _, _ => rfl
  | n + 1, f :: todo, m, seen, h => by
    unfold Program.closureVia cloM
    cases hb : m.testBit f with
    | true =>
      have hc : seen.contains f = true := List.contains_iff_mem.2 ((h f).2 hb)
      rw [if_pos hc]
      exact cloM_eq n todo m seen h
    | false =>
      have hc : ¬ seen.contains f = true := fun hh => by rw [(h f).1 (List.contains_iff_mem.1 hh)] at hb; cases hb
      rw [if_neg hc]
      refine cloM_eq n _ _ _ fun g => ?_
      rw [List.mem_cons, Nat.testBit_or, Nat.testBit_two_pow, h g]
      simp only [Bool.or_eq_true, decide_eq_true_eq]
      constructor
      · rintro (rfl | hg)
        · exact .inr rfl
        · exact .inl hg
      · rintro (hg | rfl)
        · exact .inr hg
        · exact .inl rfl
def reached : List Nat := [3, 4, 5, 8, 16, 39, 40, 85, 153, 241, 242, 349, 154, 18, 49, 100, 174, 261, 264, 262, 368, 263, 369, 370, 371, 184, 11, 272, 382, 449, 450, 383, 273, 175, 101, 103, 102, 176, 265, 105, 372, 177, 180, 104, 181, 266, 179, 267, 373, 268, 439, 485, 516, 546, 578, 579, 440, 577, 576, 442, 547, 580, 590, 595, 596, 591, 584, 513, 592, 270, 377, 443, 376, 441, 593, 517, 374, 182, 269, 375, 271, 378, 444, 379, 445, 447, 488, 446, 486, 518, 519, 548, 581, 594, 549, 582, 550, 551, 583, 552, 585, 553, 586, 587, 554, 487, 380, 381, 448, 178, 183, 90, 157, 158, 243, 350, 245, 351, 244, 159, 160, 246, 247, 352, 431, 92, 161, 162, 163, 248, 353, 250, 254, 168, 354, 432, 481, 510, 165, 511, 512, 540, 249, 356, 355, 251, 357, 433, 358, 434, 482, 514, 541, 542, 543, 544, 545, 359, 164, 252, 360, 258, 362, 260, 253, 173, 167, 255, 256, 257, 361, 435, 436, 483, 515, 166, 106, 91, 17, 41, 86, 155, 42, 156, 87, 88, 89, 43, 44, 45, 93, 169, 96, 170, 99, 95, 171, 259, 363, 437, 364, 365, 366, 367, 438, 484, 172, 94, 46, 97, 98, 47, 48, 9, 19, 21, 54, 55, 112, 186, 56, 57, 113, 58, 114, 59, 60, 115, 187, 188, 274, 189, 190, 116, 61, 62, 64, 63, 65, 117, 191, 275, 192, 66, 118, 193, 276, 277, 279, 281, 384, 451, 489, 455, 490, 453, 454, 128, 198, 199, 285, 394, 459, 286, 278, 387, 288, 398, 210, 50, 107, 456, 390, 238, 338, 388, 385, 386, 280, 452, 282, 283, 389, 284, 391, 392, 457, 458, 491, 520, 555, 556, 557, 558, 393, 194, 119, 121, 120, 195, 123, 122, 196, 67, 124, 125, 23, 52, 51, 108, 20, 53, 110, 111, 109, 185, 10, 22, 68, 126, 197, 127, 24, 25, 26, 27, 69, 70, 129, 130, 131, 132, 200, 201, 202, 203, 204, 205, 206, 72, 71, 133, 207, 211, 287, 395, 460, 492, 461, 493, 396, 397, 138, 209, 208, 135, 134, 212, 213, 139, 214, 216, 215, 289, 136, 217, 290, 218, 291, 399, 137, 219, 292, 293, 400, 33, 401, 462, 494, 403, 402, 463, 294, 295, 296, 297, 404, 464, 406, 466, 496, 497, 521, 411, 472, 503, 532, 533, 348, 570, 571, 534, 535, 572, 573, 588, 589, 522, 560, 523, 559, 524, 468, 525, 526, 528, 562, 561, 564, 563, 566, 565, 527, 495, 318, 420, 465, 298, 405, 321, 421, 28, 73, 74, 75, 140, 141, 221, 299, 300, 301, 302, 303, 304, 220, 143, 222, 305, 306, 307, 407, 308, 409, 469, 498, 529, 499, 500, 530, 567, 501, 470, 502, 531, 568, 569, 408, 467, 410, 471, 412, 473, 504, 536, 574, 575, 474, 505, 537, 506, 507, 538, 508, 142, 223, 309, 310, 413, 476, 475, 414, 224, 311, 312, 225, 226, 313, 415, 314, 316, 315, 416, 76, 417, 418, 477, 419, 29, 228, 229, 319, 227, 317, 230, 320, 322, 324, 323, 422, 231, 326, 327, 325, 232, 233, 329, 330, 424, 328, 423, 332, 333, 331, 425, 478, 479, 509, 539, 144, 235, 234, 334, 335, 336, 337, 12, 30, 13, 32, 31, 77, 145, 236, 237, 146, 34, 35, 78, 147, 149, 150, 148, 151, 240, 347, 239, 339, 340, 426, 341, 427, 428, 342, 429, 430, 480, 343, 344, 345, 346, 152, 36, 80, 81, 83, 82, 79, 37, 84, 6, 15, 14, 38, 7]
noncomputable def fuel3 : Nat := 1 + (Tryz.prog.funcs.toList.map fun g => (Tryz.prog.leadsTo g).length + 1).sum
theorem clo_is : cloM (fun f => (Tryz.prog.funcs[f]?).elim [] Tryz.prog.leadsTo) fuel3 [3] 0 [] = reached := by kernel_rfl
theorem closure_is : Tryz.prog.closure 3 = reached := by
  unfold Program.closure
  rw [cloM_eq _ _ 0 [] (fun f => by simp)]
  exact clo_is
theorem j10 : (Rows.fireMayRow.unfollowed == Tryz.prog.unfollowed 3) = true := by
  unfold Program.unfollowed
  rw [closure_is]
  kernel_rfl
theorem j9 : (Rows.fireMayRow.inPlace == Tryz.prog.inPlace 3) = true := by
  unfold Program.inPlace
  rw [closure_is]
  kernel_rfl
theorem j11 : (Rows.fireMayRow.recurses == Tryz.prog.recurses 3) = true := by
  unfold Program.recurses Program.unfollowed
  rw [closure_is]
  kernel_rfl
theorem j12 : (Rows.fireMayRow.named == Tryz.prog.varsNamed 3) = true := by
  unfold Program.varsNamed
  rw [closure_is]
  kernel_rfl
end Go.Proofs.YthhbpkpnhpdeoaaGreatDoor
