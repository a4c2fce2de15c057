/- The exchanges of the reference's least, each for itself. -/
import Derived.Test.YthfachbkcmifbaaGreatGrCS11
namespace Go.Proofs
open Go.RowKit Go.Shelf
/-- the operations of the drawn region n -/
def regOps (n : Nat) : Code → Option (Array Oper)
  | .region m ops true => if m = n then some ops else none
  | .seq a b => match regOps n a with
    | some x => some x
    | none => regOps n b
  | .cond _ a b => match regOps n a with
    | some x => some x
    | none => regOps n b
  | .block _ a => regOps n a
  | .loop a => regOps n a
  | _ => none
set_option maxRecDepth 100000 in
set_option maxHeartbeats 2000000 in
theorem reg12_any {Q : Exit → Act → World → Prop} {w : World} {ops : Array Oper} {b g d bt bx ct cx t p r n : Nat} {x2 x3 x4 x6 x7 x8 x9 x10 x11 x12 x13 x14 x15 x16 x17 x18 x19 x20 x21 x22 x23 x24 x25 x26 x27 x28 x29 x30 x31 x32 x33 x34 x35 x36 x37 x38 x39 x40 x41 x42 x43 x44 x45 x46 x47 x48 x49 x50 x51 x52 x53 x54 x55 x56 x57 x58 x59 x60 x61 x62 x63 x64 x65 x66 x67 x68 x69 x70 x71 x72 x73 x74 x75 x76 x77 x78 x79 x80 x81 x82 x83 x84 x85 x86 x87 x88 x89 x90 x91 x92 x93 x94 x95 x96 x97 x98 x99 x100 x101 x102 x103 x104 x105 x106 x107 x108 x109 x110 x111 x112 x113 x114 x115 x116 x117 x118 x119 x120 x121 x122 x123 x124 x125 x126 x127 x128 x129 x130 x131 x132 x133 x134 x135 x136 x137 x138 x139 x140 x141 x142 x143 x144 x145 x146 x147 x148 x149 x150 x151 x152 x153 x154 x155 x156 x157 x158 x159 x160 x161 x162 x163 x164 x165 x166 x167 x168 x169 x170 x171 x172 x173 x174 x175 x176 x177 x178 x179 x180 x181 x182 x183 x184 x185 x186 x187 x188 x189 x190 x191 x192 x193 x194 x195 x196 x197 x198 x199 x200 x201 x202 x203 x204 x205 x206 x207 x208 x209 x210 x211 x212 x213 x214 x215 x216 x217 x218 x219 x220 x221 x222 x223 : Value} (hops : regOps 12 (Tryz.f77.body.getD .skip) = some ops)
    (y1 : w.cell? ⟨b, 0, none⟩ = some (.slice (some ⟨g, 0, none⟩) r d)) (y2 : w.cell? ⟨g, t, none⟩ = some (.slice (some ⟨bt, 0, none⟩) n ct)) (y3 : w.cell? ⟨g, p, none⟩ = some (.slice (some ⟨bx, 0, none⟩) n cx)) (y4 : w.frozen? ⟨g, t, none⟩ = false) (y5 : w.frozen? ⟨g, p, none⟩ = false) (ht : t < r) (hpr : p < r)
    (hend : ∀ u78 u79 u80 u81 u82 u83 u84 u85 u86 u87 u88 u89 u90 u91 u92 u93 u94 u95 u96 u97 u98 u99 u100 u101 u102 u103 : Value, Q .normal { tmps := #[.pointer (some ⟨b, 0, none⟩), .int .i64 (t : Int), x2, x3, x4, .int .i64 (p : Int), x6, x7, x8, x9, x10, x11, x12, x13, x14, x15, x16, x17, x18, x19, x20, x21, x22, x23, x24, x25, x26, x27, x28, x29, x30, x31, x32, x33, x34, x35, x36, x37, x38, x39, x40, x41, x42, x43, x44, x45, x46, x47, x48, x49, x50, x51, x52, x53, x54, x55, x56, x57, x58, x59, x60, x61, x62, x63, x64, x65, x66, x67, x68, x69, x70, x71, x72, x73, x74, x75, x76, x77, u78, u79, u80, u81, u82, u83, u84, u85, u86, u87, u88, u89, u90, u91, u92, u93, u94, u95, u96, u97, u98, u99, u100, u101, u102, u103, x104, x105, x106, x107, x108, x109, x110, x111, x112, x113, x114, x115, x116, x117, x118, x119, x120, x121, x122, x123, x124, x125, x126, x127, x128, x129, x130, x131, x132, x133, x134, x135, x136, x137, x138, x139, x140, x141, x142, x143, x144, x145, x146, x147, x148, x149, x150, x151, x152, x153, x154, x155, x156, x157, x158, x159, x160, x161, x162, x163, x164, x165, x166, x167, x168, x169, x170, x171, x172, x173, x174, x175, x176, x177, x178, x179, x180, x181, x182, x183, x184, x185, x186, x187, x188, x189, x190, x191, x192, x193, x194, x195, x196, x197, x198, x199, x200, x201, x202, x203, x204, x205, x206, x207, x208, x209, x210, x211, x212, x213, x214, x215, x216, x217, x218, x219, x220, x221, x222, x223], defers := [] } ((w.drew.setCell ⟨g, t, none⟩ (.slice (some ⟨bx, 0, none⟩) n cx)).setCell ⟨g, p, none⟩ (.slice (some ⟨bt, 0, none⟩) n ct))) : (Code.region 12 ops true).wp Tryz.prog Q { tmps := #[.pointer (some ⟨b, 0, none⟩), .int .i64 (t : Int), x2, x3, x4, .int .i64 (p : Int), x6, x7, x8, x9, x10, x11, x12, x13, x14, x15, x16, x17, x18, x19, x20, x21, x22, x23, x24, x25, x26, x27, x28, x29, x30, x31, x32, x33, x34, x35, x36, x37, x38, x39, x40, x41, x42, x43, x44, x45, x46, x47, x48, x49, x50, x51, x52, x53, x54, x55, x56, x57, x58, x59, x60, x61, x62, x63, x64, x65, x66, x67, x68, x69, x70, x71, x72, x73, x74, x75, x76, x77, x78, x79, x80, x81, x82, x83, x84, x85, x86, x87, x88, x89, x90, x91, x92, x93, x94, x95, x96, x97, x98, x99, x100, x101, x102, x103, x104, x105, x106, x107, x108, x109, x110, x111, x112, x113, x114, x115, x116, x117, x118, x119, x120, x121, x122, x123, x124, x125, x126, x127, x128, x129, x130, x131, x132, x133, x134, x135, x136, x137, x138, x139, x140, x141, x142, x143, x144, x145, x146, x147, x148, x149, x150, x151, x152, x153, x154, x155, x156, x157, x158, x159, x160, x161, x162, x163, x164, x165, x166, x167, x168, x169, x170, x171, x172, x173, x174, x175, x176, x177, x178, x179, x180, x181, x182, x183, x184, x185, x186, x187, x188, x189, x190, x191, x192, x193, x194, x195, x196, x197, x198, x199, x200, x201, x202, x203, x204, x205, x206, x207, x208, x209, x210, x211, x212, x213, x214, x215, x216, x217, x218, x219, x220, x221, x222, x223], defers := [] } w := by
  have HFB : Hid (∀ W, W = w.drew → W.cell? ⟨b, 0, none⟩ = some (.slice (some ⟨g, 0, none⟩) r d)) := Lib.hid fun W hW => by rw [hW]; exact y1
  have HFT : Hid (∀ W, W = w.drew → W.cell? ⟨g, t, none⟩ = some (.slice (some ⟨bt, 0, none⟩) n ct)) := Lib.hid fun W hW => by rw [hW]; exact y2
  have HFP : Hid (∀ W, W = w.drew → W.cell? ⟨g, p, none⟩ = some (.slice (some ⟨bx, 0, none⟩) n cx)) := Lib.hid fun W hW => by rw [hW]; exact y3
  have E1 : Hid (w.drew.cell? ⟨g, t, none⟩ = some (.slice (some ⟨bt, 0, none⟩) n ct)) := Lib.hid y2
  have G1 : Hid (w.drew.frozen? ⟨g, t, none⟩ = false) := Lib.hid y4
  obtain ⟨u2, hu2⟩ := cell?_setCell_some (w := w.drew) (p := ⟨g, t, none⟩) (q := ⟨g, p, none⟩) (x := .slice (some ⟨bx, 0, none⟩) n cx) y3
  have E2 := Lib.hid hu2
  have G2 : Hid ((w.drew.setCell ⟨g, t, none⟩ (.slice (some ⟨bx, 0, none⟩) n cx)).frozen? ⟨g, p, none⟩ = false) := Lib.hid (by rw [World.frozen?_setCell]; exact y5)
  simp only [Tryz.f77, Option.getD_some, regOps, reduceIte, Nat.reduceEqDiff, Option.some.injEq] at hops
  subst hops
  refine (wpIn_wide (n := 3)).1 ?_
  refine wpIn_region_all (by kernel_rfl) 28 rfl (fun i => if i < 25 then some (78 + i) else if i = 25 then none else if i = 26 then some 103 else none) (lex_of (by kernel_rfl)) (fun ls W => W = bif ls 27 then ((w.drew.setCell ⟨g, t, none⟩ (.slice (some ⟨bx, 0, none⟩) n cx)).setCell ⟨g, p, none⟩ (.slice (some ⟨bt, 0, none⟩) n ct)) else bif ls 25 then (w.drew.setCell ⟨g, t, none⟩ (.slice (some ⟨bx, 0, none⟩) n cx)) else w.drew)
    (fun k9 v _ => v = ([.pointer (some ⟨b, 0, none⟩), .pointer (some ⟨b, 0, none⟩), .pointer (some ⟨b, 0, none⟩), .slice (some ⟨g, 0, none⟩) r d, .int .i64 (t : Int), .pointer (some ⟨b, 0, none⟩), .pointer (some ⟨b, 0, none⟩), .pointer (some ⟨b, 0, none⟩), .slice (some ⟨g, 0, none⟩) r d, .int .i64 (p : Int), .pointer (some ⟨b, 0, none⟩), .pointer (some ⟨b, 0, none⟩), .pointer (some ⟨b, 0, none⟩), .slice (some ⟨g, 0, none⟩) r d, .int .i64 (p : Int), .pointer (some ⟨g, p, none⟩), .slice (some ⟨bx, 0, none⟩) n cx, .pointer (some ⟨b, 0, none⟩), .pointer (some ⟨b, 0, none⟩), .pointer (some ⟨b, 0, none⟩), .slice (some ⟨g, 0, none⟩) r d, .int .i64 (t : Int), .pointer (some ⟨g, t, none⟩), .slice (some ⟨bt, 0, none⟩) n ct, .pointer (some ⟨g, t, none⟩), undef, .pointer (some ⟨g, p, none⟩), undef] : List Value).getD k9 undef) (fun _ _ _ => True) (dm_inj (by kernel_rfl)) (fun _ _ _ _ _ _ _ _ _ h => h) (dm_lt (n := 224) (by kernel_rfl)) rfl ?_ ?_
  · intro ls q o a w2 hq ho hS2 hls hcl hP hpre
    have hcases : q = 0 ∨ q = 1 ∨ q = 2 ∨ q = 3 ∨ q = 4 ∨ q = 5 ∨ q = 6 ∨ q = 7 ∨ q = 8 ∨ q = 9 ∨ q = 10 ∨ q = 11 ∨ q = 12 ∨ q = 13 ∨ q = 14 ∨ q = 15 ∨ q = 16 ∨ q = 17 ∨ q = 18 ∨ q = 19 ∨ q = 20 ∨ q = 21 ∨ q = 22 ∨ q = 23 ∨ q = 24 ∨ q = 25 ∨ q = 26 ∨ q = 27 := by
      have : q < 28 := hq
      omega
    rcases hcases with rfl | rfl | rfl | rfl | rfl | rfl | rfl | rfl | rfl | rfl | rfl | rfl | rfl | rfl | rfl | rfl | rfl | rfl | rfl | rfl | rfl | rfl | rfl | rfl | rfl | rfl | rfl | rfl
    · obtain rfl := Option.some.inj ho
      exact wpOpIn_of rfl rfl (wpW_val (r_move (.tmp 0) rfl (hP.out 0 (dm_out (by kernel_rfl)))) ⟨_, rfl, hS2, trivial, (fun h => by simp at h), rfl⟩)
    · obtain rfl := Option.some.inj ho
      exact wpOpIn_of rfl rfl (wpW_val (r_nil (.tmp 78) _ rfl (hpre ⟨0, .data⟩ (by simp) rfl).2) ⟨_, rfl, hS2, trivial, (fun h => by simp at h), rfl⟩)
    · obtain rfl := Option.some.inj ho
      exact wpOpIn_of rfl rfl (wpW_val (r_fld (.tmp 79) _ rfl (hpre ⟨1, .data⟩ (by simp) rfl).2 (fld70_0 b _)) ⟨_, rfl, hS2, trivial, (fun h => by simp at h), rfl⟩)
    · obtain rfl := Option.some.inj ho
      have h2 := not_yet hcl 27 rfl ⟨3, .phase⟩ (by simp) rfl hls
      have h1 := not_yet hcl 25 rfl ⟨3, .phase⟩ (by simp) rfl hls
      have hw := sel3 hS2 h2 h1
      exact wpOpIn_of rfl rfl (wpW_val (r_load1 40 agg22 (.tmp 80) ⟨b, 0, none⟩ rfl (hpre ⟨2, .data⟩ (by simp) rfl).2 (HFB.out _ hw)) ⟨_, rfl, hS2, trivial, (fun h => by simp at h), rfl⟩)
    · obtain rfl := Option.some.inj ho
      exact wpOpIn_of rfl rfl (wpW_val (r_move (.tmp 1) rfl (hP.out 1 (dm_out (by kernel_rfl)))) ⟨_, rfl, hS2, trivial, (fun h => by simp at h), rfl⟩)
    · obtain rfl := Option.some.inj ho
      exact wpOpIn_of rfl rfl (wpW_val (r_move (.tmp 0) rfl (hP.out 0 (dm_out (by kernel_rfl)))) ⟨_, rfl, hS2, trivial, (fun h => by simp at h), rfl⟩)
    · obtain rfl := Option.some.inj ho
      exact wpOpIn_of rfl rfl (wpW_val (r_nil (.tmp 83) _ rfl (hpre ⟨5, .data⟩ (by simp) rfl).2) ⟨_, rfl, hS2, trivial, (fun h => by simp at h), rfl⟩)
    · obtain rfl := Option.some.inj ho
      exact wpOpIn_of rfl rfl (wpW_val (r_fld (.tmp 84) _ rfl (hpre ⟨6, .data⟩ (by simp) rfl).2 (fld70_0 b _)) ⟨_, rfl, hS2, trivial, (fun h => by simp at h), rfl⟩)
    · obtain rfl := Option.some.inj ho
      have h2 := not_yet hcl 27 rfl ⟨8, .phase⟩ (by simp) rfl hls
      have h1 := not_yet hcl 25 rfl ⟨8, .phase⟩ (by simp) rfl hls
      have hw := sel3 hS2 h2 h1
      exact wpOpIn_of rfl rfl (wpW_val (r_load1 40 agg22 (.tmp 85) ⟨b, 0, none⟩ rfl (hpre ⟨7, .data⟩ (by simp) rfl).2 (HFB.out _ hw)) ⟨_, rfl, hS2, trivial, (fun h => by simp at h), rfl⟩)
    · obtain rfl := Option.some.inj ho
      exact wpOpIn_of rfl rfl (wpW_val (r_move (.tmp 5) rfl (hP.out 5 (dm_out (by kernel_rfl)))) ⟨_, rfl, hS2, trivial, (fun h => by simp at h), rfl⟩)
    · obtain rfl := Option.some.inj ho
      exact wpOpIn_of rfl rfl (wpW_val (r_move (.tmp 0) rfl (hP.out 0 (dm_out (by kernel_rfl)))) ⟨_, rfl, hS2, trivial, (fun h => by simp at h), rfl⟩)
    · obtain rfl := Option.some.inj ho
      exact wpOpIn_of rfl rfl (wpW_val (r_nil (.tmp 88) _ rfl (hpre ⟨10, .data⟩ (by simp) rfl).2) ⟨_, rfl, hS2, trivial, (fun h => by simp at h), rfl⟩)
    · obtain rfl := Option.some.inj ho
      exact wpOpIn_of rfl rfl (wpW_val (r_fld (.tmp 89) _ rfl (hpre ⟨11, .data⟩ (by simp) rfl).2 (fld70_0 b _)) ⟨_, rfl, hS2, trivial, (fun h => by simp at h), rfl⟩)
    · obtain rfl := Option.some.inj ho
      have h2 := not_yet hcl 27 rfl ⟨13, .phase⟩ (by simp) rfl hls
      have h1 := not_yet hcl 25 rfl ⟨13, .phase⟩ (by simp) rfl hls
      have hw := sel3 hS2 h2 h1
      exact wpOpIn_of rfl rfl (wpW_val (r_load1 40 agg22 (.tmp 90) ⟨b, 0, none⟩ rfl (hpre ⟨12, .data⟩ (by simp) rfl).2 (HFB.out _ hw)) ⟨_, rfl, hS2, trivial, (fun h => by simp at h), rfl⟩)
    · obtain rfl := Option.some.inj ho
      exact wpOpIn_of rfl rfl (wpW_val (r_move (.tmp 5) rfl (hP.out 5 (dm_out (by kernel_rfl)))) ⟨_, rfl, hS2, trivial, (fun h => by simp at h), rfl⟩)
    · obtain rfl := Option.some.inj ho
      exact wpOpIn_of rfl rfl (wpW_val (r_idx (.tmp 91) (.tmp 92) _ _ rfl (hpre ⟨13, .data⟩ (by simp) rfl).2 (hpre ⟨14, .data⟩ (by simp) rfl).2 (idx_sl Tryz.underlying40 size25 g r d p hpr _)) ⟨_, rfl, hS2, trivial, (fun h => by simp at h), rfl⟩)
    · obtain rfl := Option.some.inj ho
      have h2 := not_yet hcl 27 rfl ⟨16, .phase⟩ (by simp) rfl hls
      have h1 := not_yet hcl 25 rfl ⟨16, .phase⟩ (by simp) rfl hls
      have hw := sel3 hS2 h2 h1
      exact wpOpIn_of rfl rfl (wpW_val (r_load1 25 agg25 (.tmp 93) ⟨g, p, none⟩ rfl (hpre ⟨15, .data⟩ (by simp) rfl).2 (HFP.out _ hw)) ⟨_, rfl, hS2, trivial, (fun h => by simp at h), rfl⟩)
    · obtain rfl := Option.some.inj ho
      exact wpOpIn_of rfl rfl (wpW_val (r_move (.tmp 0) rfl (hP.out 0 (dm_out (by kernel_rfl)))) ⟨_, rfl, hS2, trivial, (fun h => by simp at h), rfl⟩)
    · obtain rfl := Option.some.inj ho
      exact wpOpIn_of rfl rfl (wpW_val (r_nil (.tmp 95) _ rfl (hpre ⟨17, .data⟩ (by simp) rfl).2) ⟨_, rfl, hS2, trivial, (fun h => by simp at h), rfl⟩)
    · obtain rfl := Option.some.inj ho
      exact wpOpIn_of rfl rfl (wpW_val (r_fld (.tmp 96) _ rfl (hpre ⟨18, .data⟩ (by simp) rfl).2 (fld70_0 b _)) ⟨_, rfl, hS2, trivial, (fun h => by simp at h), rfl⟩)
    · obtain rfl := Option.some.inj ho
      have h2 := not_yet hcl 27 rfl ⟨20, .phase⟩ (by simp) rfl hls
      have h1 := not_yet hcl 25 rfl ⟨20, .phase⟩ (by simp) rfl hls
      have hw := sel3 hS2 h2 h1
      exact wpOpIn_of rfl rfl (wpW_val (r_load1 40 agg22 (.tmp 97) ⟨b, 0, none⟩ rfl (hpre ⟨19, .data⟩ (by simp) rfl).2 (HFB.out _ hw)) ⟨_, rfl, hS2, trivial, (fun h => by simp at h), rfl⟩)
    · obtain rfl := Option.some.inj ho
      exact wpOpIn_of rfl rfl (wpW_val (r_move (.tmp 1) rfl (hP.out 1 (dm_out (by kernel_rfl)))) ⟨_, rfl, hS2, trivial, (fun h => by simp at h), rfl⟩)
    · obtain rfl := Option.some.inj ho
      exact wpOpIn_of rfl rfl (wpW_val (r_idx (.tmp 98) (.tmp 99) _ _ rfl (hpre ⟨20, .data⟩ (by simp) rfl).2 (hpre ⟨21, .data⟩ (by simp) rfl).2 (idx_sl Tryz.underlying40 size25 g r d t ht _)) ⟨_, rfl, hS2, trivial, (fun h => by simp at h), rfl⟩)
    · obtain rfl := Option.some.inj ho
      have h2 := not_yet hcl 27 rfl ⟨23, .phase⟩ (by simp) rfl hls
      have h1 := not_yet hcl 25 rfl ⟨23, .phase⟩ (by simp) rfl hls
      have hw := sel3 hS2 h2 h1
      exact wpOpIn_of rfl rfl (wpW_val (r_load1 25 agg25 (.tmp 100) ⟨g, t, none⟩ rfl (hpre ⟨22, .data⟩ (by simp) rfl).2 (HFT.out _ hw)) ⟨_, rfl, hS2, trivial, (fun h => by simp at h), rfl⟩)
    · obtain rfl := Option.some.inj ho
      exact wpOpIn_of rfl rfl (wpW_val (r_idx (.tmp 81) (.tmp 82) _ _ rfl (hpre ⟨3, .data⟩ (by simp) rfl).2 (hpre ⟨4, .data⟩ (by simp) rfl).2 (idx_sl Tryz.underlying40 size25 g r d t ht _)) ⟨_, rfl, hS2, trivial, (fun h => by simp at h), rfl⟩)
    · obtain rfl := Option.some.inj ho
      have h2 := not_yet hcl 27 rfl ⟨25, .chain⟩ (by simp) rfl hls
      have hw := sel3 hS2 h2 hls
      subst hw
      exact wpOpIn_of rfl rfl (wpW_skip (r_store1 25 (.tmp 102) (.tmp 94) _ _ _ rfl (hpre ⟨24, .data⟩ (by simp) rfl).2 (hpre ⟨16, .data⟩ (by simp) rfl).2 rfl E1.out G1.out (stS _ _ _ _ E1.out G1.out)) ⟨undef, rfl, (by show _ = bif ls 27 then _ else _; rw [h2]; rfl), trivial, fun _ => rfl, rfl⟩)
    · obtain rfl := Option.some.inj ho
      exact wpOpIn_of rfl rfl (wpW_val (r_idx (.tmp 86) (.tmp 87) _ _ rfl (hpre ⟨8, .data⟩ (by simp) rfl).2 (hpre ⟨9, .data⟩ (by simp) rfl).2 (idx_sl Tryz.underlying40 size25 g r d p hpr _)) ⟨_, rfl, hS2, trivial, (fun h => by simp at h), rfl⟩)
    · obtain rfl := Option.some.inj ho
      have h1 : ls 25 = true := (hpre ⟨25, .chain⟩ (by simp) rfl).1
      rw [hls, h1] at hS2
      change w2 = (w.drew.setCell ⟨g, t, none⟩ (.slice (some ⟨bx, 0, none⟩) n cx)) at hS2
      subst hS2
      exact wpOpIn_of rfl rfl (wpW_skip (r_store1 25 (.tmp 103) (.tmp 101) _ _ _ rfl (hpre ⟨26, .data⟩ (by simp) rfl).2 (hpre ⟨23, .data⟩ (by simp) rfl).2 rfl E2.out G2.out (stS _ _ _ _ E2.out G2.out)) ⟨undef, rfl, rfl, trivial, fun _ => rfl, rfl⟩)
  · intro ls a w2 hall hS2 hP hsl
    have h2 : ls 27 = true := hall 27 (by decide)
    rw [h2] at hS2
    obtain ⟨us, hus, hfr⟩ := hP.frame 224 rfl
    clear hsl hP hall h2 hus
    subst hfr
    subst hS2
    dsimp only
    simp only [List.range, List.range.loop, List.map_cons, List.map_nil, List.any_cons, List.any_nil, Nat.reduceAdd, Nat.reduceBEq, Nat.reduceLT, Nat.reduceEqDiff, Option.some_beq_some, Bool.or_false, if_true, if_false, List.getD_cons_zero, List.getD_cons_succ, cond_true]
    exact hend (us 78) (us 79) (us 80) (us 81) (us 82) (us 83) (us 84) (us 85) (us 86) (us 87) (us 88) (us 89) (us 90) (us 91) (us 92) (us 93) (us 94) (us 95) (us 96) (us 97) (us 98) (us 99) (us 100) (us 101) (us 102) (us 103)
set_option maxRecDepth 100000 in
set_option maxHeartbeats 2000000 in
theorem reg13_any {Q : Exit → Act → World → Prop} {w : World} {ops : Array Oper} {b g d bt bx ct cx t p r : Nat} {x2 x3 x4 x6 x7 x8 x9 x10 x11 x12 x13 x14 x15 x16 x17 x18 x19 x20 x21 x22 x23 x24 x25 x26 x27 x28 x29 x30 x31 x32 x33 x34 x35 x36 x37 x38 x39 x40 x41 x42 x43 x44 x45 x46 x47 x48 x49 x50 x51 x52 x53 x54 x55 x56 x57 x58 x59 x60 x61 x62 x63 x64 x65 x66 x67 x68 x69 x70 x71 x72 x73 x74 x75 x76 x77 x78 x79 x80 x81 x82 x83 x84 x85 x86 x87 x88 x89 x90 x91 x92 x93 x94 x95 x96 x97 x98 x99 x100 x101 x102 x103 x104 x105 x106 x107 x108 x109 x110 x111 x112 x113 x114 x115 x116 x117 x118 x119 x120 x121 x122 x123 x124 x125 x126 x127 x128 x129 x130 x131 x132 x133 x134 x135 x136 x137 x138 x139 x140 x141 x142 x143 x144 x145 x146 x147 x148 x149 x150 x151 x152 x153 x154 x155 x156 x157 x158 x159 x160 x161 x162 x163 x164 x165 x166 x167 x168 x169 x170 x171 x172 x173 x174 x175 x176 x177 x178 x179 x180 x181 x182 x183 x184 x185 x186 x187 x188 x189 x190 x191 x192 x193 x194 x195 x196 x197 x198 x199 x200 x201 x202 x203 x204 x205 x206 x207 x208 x209 x210 x211 x212 x213 x214 x215 x216 x217 x218 x219 x220 x221 x222 x223 : Value} (hops : regOps 13 (Tryz.f77.body.getD .skip) = some ops)
    (y1 : w.cell? ⟨b, 1, none⟩ = some (.slice (some ⟨g, 0, none⟩) r d)) (y2 : w.cell? ⟨g, t, none⟩ = some (.slice (some ⟨bt, 0, none⟩) r ct)) (y3 : w.cell? ⟨g, p, none⟩ = some (.slice (some ⟨bx, 0, none⟩) r cx)) (y4 : w.frozen? ⟨g, t, none⟩ = false) (y5 : w.frozen? ⟨g, p, none⟩ = false) (ht : t < r) (hpr : p < r)
    (hend : ∀ u104 u105 u106 u107 u108 u109 u110 u111 u112 u113 u114 u115 u116 u117 u118 u119 u120 u121 u122 u123 u124 u125 u126 u127 u128 u129 : Value, Q .normal { tmps := #[.pointer (some ⟨b, 0, none⟩), .int .i64 (t : Int), x2, x3, x4, .int .i64 (p : Int), x6, x7, x8, x9, x10, x11, x12, x13, x14, x15, x16, x17, x18, x19, x20, x21, x22, x23, x24, x25, x26, x27, x28, x29, x30, x31, x32, x33, x34, x35, x36, x37, x38, x39, x40, x41, x42, x43, x44, x45, x46, x47, x48, x49, x50, x51, x52, x53, x54, x55, x56, x57, x58, x59, x60, x61, x62, x63, x64, x65, x66, x67, x68, x69, x70, x71, x72, x73, x74, x75, x76, x77, x78, x79, x80, x81, x82, x83, x84, x85, x86, x87, x88, x89, x90, x91, x92, x93, x94, x95, x96, x97, x98, x99, x100, x101, x102, x103, u104, u105, u106, u107, u108, u109, u110, u111, u112, u113, u114, u115, u116, u117, u118, u119, u120, u121, u122, u123, u124, u125, u126, u127, u128, u129, x130, x131, x132, x133, x134, x135, x136, x137, x138, x139, x140, x141, x142, x143, x144, x145, x146, x147, x148, x149, x150, x151, x152, x153, x154, x155, x156, x157, x158, x159, x160, x161, x162, x163, x164, x165, x166, x167, x168, x169, x170, x171, x172, x173, x174, x175, x176, x177, x178, x179, x180, x181, x182, x183, x184, x185, x186, x187, x188, x189, x190, x191, x192, x193, x194, x195, x196, x197, x198, x199, x200, x201, x202, x203, x204, x205, x206, x207, x208, x209, x210, x211, x212, x213, x214, x215, x216, x217, x218, x219, x220, x221, x222, x223], defers := [] } ((w.drew.setCell ⟨g, t, none⟩ (.slice (some ⟨bx, 0, none⟩) r cx)).setCell ⟨g, p, none⟩ (.slice (some ⟨bt, 0, none⟩) r ct))) : (Code.region 13 ops true).wp Tryz.prog Q { tmps := #[.pointer (some ⟨b, 0, none⟩), .int .i64 (t : Int), x2, x3, x4, .int .i64 (p : Int), x6, x7, x8, x9, x10, x11, x12, x13, x14, x15, x16, x17, x18, x19, x20, x21, x22, x23, x24, x25, x26, x27, x28, x29, x30, x31, x32, x33, x34, x35, x36, x37, x38, x39, x40, x41, x42, x43, x44, x45, x46, x47, x48, x49, x50, x51, x52, x53, x54, x55, x56, x57, x58, x59, x60, x61, x62, x63, x64, x65, x66, x67, x68, x69, x70, x71, x72, x73, x74, x75, x76, x77, x78, x79, x80, x81, x82, x83, x84, x85, x86, x87, x88, x89, x90, x91, x92, x93, x94, x95, x96, x97, x98, x99, x100, x101, x102, x103, x104, x105, x106, x107, x108, x109, x110, x111, x112, x113, x114, x115, x116, x117, x118, x119, x120, x121, x122, x123, x124, x125, x126, x127, x128, x129, x130, x131, x132, x133, x134, x135, x136, x137, x138, x139, x140, x141, x142, x143, x144, x145, x146, x147, x148, x149, x150, x151, x152, x153, x154, x155, x156, x157, x158, x159, x160, x161, x162, x163, x164, x165, x166, x167, x168, x169, x170, x171, x172, x173, x174, x175, x176, x177, x178, x179, x180, x181, x182, x183, x184, x185, x186, x187, x188, x189, x190, x191, x192, x193, x194, x195, x196, x197, x198, x199, x200, x201, x202, x203, x204, x205, x206, x207, x208, x209, x210, x211, x212, x213, x214, x215, x216, x217, x218, x219, x220, x221, x222, x223], defers := [] } w := by
  have HFB : Hid (∀ W, W = w.drew → W.cell? ⟨b, 1, none⟩ = some (.slice (some ⟨g, 0, none⟩) r d)) := Lib.hid fun W hW => by rw [hW]; exact y1
  have HFT : Hid (∀ W, W = w.drew → W.cell? ⟨g, t, none⟩ = some (.slice (some ⟨bt, 0, none⟩) r ct)) := Lib.hid fun W hW => by rw [hW]; exact y2
  have HFP : Hid (∀ W, W = w.drew → W.cell? ⟨g, p, none⟩ = some (.slice (some ⟨bx, 0, none⟩) r cx)) := Lib.hid fun W hW => by rw [hW]; exact y3
  have E1 : Hid (w.drew.cell? ⟨g, t, none⟩ = some (.slice (some ⟨bt, 0, none⟩) r ct)) := Lib.hid y2
  have G1 : Hid (w.drew.frozen? ⟨g, t, none⟩ = false) := Lib.hid y4
  obtain ⟨u2, hu2⟩ := cell?_setCell_some (w := w.drew) (p := ⟨g, t, none⟩) (q := ⟨g, p, none⟩) (x := .slice (some ⟨bx, 0, none⟩) r cx) y3
  have E2 := Lib.hid hu2
  have G2 : Hid ((w.drew.setCell ⟨g, t, none⟩ (.slice (some ⟨bx, 0, none⟩) r cx)).frozen? ⟨g, p, none⟩ = false) := Lib.hid (by rw [World.frozen?_setCell]; exact y5)
  simp only [Tryz.f77, Option.getD_some, regOps, reduceIte, Nat.reduceEqDiff, Option.some.injEq] at hops
  subst hops
  refine (wpIn_wide (n := 3)).1 ?_
  refine wpIn_region_all (by kernel_rfl) 28 rfl (fun i => if i < 25 then some (104 + i) else if i = 25 then none else if i = 26 then some 129 else none) (lex_of (by kernel_rfl)) (fun ls W => W = bif ls 27 then ((w.drew.setCell ⟨g, t, none⟩ (.slice (some ⟨bx, 0, none⟩) r cx)).setCell ⟨g, p, none⟩ (.slice (some ⟨bt, 0, none⟩) r ct)) else bif ls 25 then (w.drew.setCell ⟨g, t, none⟩ (.slice (some ⟨bx, 0, none⟩) r cx)) else w.drew)
    (fun k9 v _ => v = ([.pointer (some ⟨b, 0, none⟩), .pointer (some ⟨b, 0, none⟩), .pointer (some ⟨b, 1, none⟩), .slice (some ⟨g, 0, none⟩) r d, .int .i64 (t : Int), .pointer (some ⟨b, 0, none⟩), .pointer (some ⟨b, 0, none⟩), .pointer (some ⟨b, 1, none⟩), .slice (some ⟨g, 0, none⟩) r d, .int .i64 (p : Int), .pointer (some ⟨b, 0, none⟩), .pointer (some ⟨b, 0, none⟩), .pointer (some ⟨b, 1, none⟩), .slice (some ⟨g, 0, none⟩) r d, .int .i64 (p : Int), .pointer (some ⟨g, p, none⟩), .slice (some ⟨bx, 0, none⟩) r cx, .pointer (some ⟨b, 0, none⟩), .pointer (some ⟨b, 0, none⟩), .pointer (some ⟨b, 1, none⟩), .slice (some ⟨g, 0, none⟩) r d, .int .i64 (t : Int), .pointer (some ⟨g, t, none⟩), .slice (some ⟨bt, 0, none⟩) r ct, .pointer (some ⟨g, t, none⟩), undef, .pointer (some ⟨g, p, none⟩), undef] : List Value).getD k9 undef) (fun _ _ _ => True) (dm_inj (by kernel_rfl)) (fun _ _ _ _ _ _ _ _ _ h => h) (dm_lt (n := 224) (by kernel_rfl)) rfl ?_ ?_
  · intro ls q o a w2 hq ho hS2 hls hcl hP hpre
    have hcases : q = 0 ∨ q = 1 ∨ q = 2 ∨ q = 3 ∨ q = 4 ∨ q = 5 ∨ q = 6 ∨ q = 7 ∨ q = 8 ∨ q = 9 ∨ q = 10 ∨ q = 11 ∨ q = 12 ∨ q = 13 ∨ q = 14 ∨ q = 15 ∨ q = 16 ∨ q = 17 ∨ q = 18 ∨ q = 19 ∨ q = 20 ∨ q = 21 ∨ q = 22 ∨ q = 23 ∨ q = 24 ∨ q = 25 ∨ q = 26 ∨ q = 27 := by
      have : q < 28 := hq
      omega
    rcases hcases with rfl | rfl | rfl | rfl | rfl | rfl | rfl | rfl | rfl | rfl | rfl | rfl | rfl | rfl | rfl | rfl | rfl | rfl | rfl | rfl | rfl | rfl | rfl | rfl | rfl | rfl | rfl | rfl
    · obtain rfl := Option.some.inj ho
      exact wpOpIn_of rfl rfl (wpW_val (r_move (.tmp 0) rfl (hP.out 0 (dm_out (by kernel_rfl)))) ⟨_, rfl, hS2, trivial, (fun h => by simp at h), rfl⟩)
    · obtain rfl := Option.some.inj ho
      exact wpOpIn_of rfl rfl (wpW_val (r_nil (.tmp 104) _ rfl (hpre ⟨0, .data⟩ (by simp) rfl).2) ⟨_, rfl, hS2, trivial, (fun h => by simp at h), rfl⟩)
    · obtain rfl := Option.some.inj ho
      exact wpOpIn_of rfl rfl (wpW_val (r_fld (.tmp 105) _ rfl (hpre ⟨1, .data⟩ (by simp) rfl).2 (fld70_1 b _)) ⟨_, rfl, hS2, trivial, (fun h => by simp at h), rfl⟩)
    · obtain rfl := Option.some.inj ho
      have h2 := not_yet hcl 27 rfl ⟨3, .phase⟩ (by simp) rfl hls
      have h1 := not_yet hcl 25 rfl ⟨3, .phase⟩ (by simp) rfl hls
      have hw := sel3 hS2 h2 h1
      exact wpOpIn_of rfl rfl (wpW_val (r_load1 40 agg22 (.tmp 106) ⟨b, 1, none⟩ rfl (hpre ⟨2, .data⟩ (by simp) rfl).2 (HFB.out _ hw)) ⟨_, rfl, hS2, trivial, (fun h => by simp at h), rfl⟩)
    · obtain rfl := Option.some.inj ho
      exact wpOpIn_of rfl rfl (wpW_val (r_move (.tmp 1) rfl (hP.out 1 (dm_out (by kernel_rfl)))) ⟨_, rfl, hS2, trivial, (fun h => by simp at h), rfl⟩)
    · obtain rfl := Option.some.inj ho
      exact wpOpIn_of rfl rfl (wpW_val (r_move (.tmp 0) rfl (hP.out 0 (dm_out (by kernel_rfl)))) ⟨_, rfl, hS2, trivial, (fun h => by simp at h), rfl⟩)
    · obtain rfl := Option.some.inj ho
      exact wpOpIn_of rfl rfl (wpW_val (r_nil (.tmp 109) _ rfl (hpre ⟨5, .data⟩ (by simp) rfl).2) ⟨_, rfl, hS2, trivial, (fun h => by simp at h), rfl⟩)
    · obtain rfl := Option.some.inj ho
      exact wpOpIn_of rfl rfl (wpW_val (r_fld (.tmp 110) _ rfl (hpre ⟨6, .data⟩ (by simp) rfl).2 (fld70_1 b _)) ⟨_, rfl, hS2, trivial, (fun h => by simp at h), rfl⟩)
    · obtain rfl := Option.some.inj ho
      have h2 := not_yet hcl 27 rfl ⟨8, .phase⟩ (by simp) rfl hls
      have h1 := not_yet hcl 25 rfl ⟨8, .phase⟩ (by simp) rfl hls
      have hw := sel3 hS2 h2 h1
      exact wpOpIn_of rfl rfl (wpW_val (r_load1 40 agg22 (.tmp 111) ⟨b, 1, none⟩ rfl (hpre ⟨7, .data⟩ (by simp) rfl).2 (HFB.out _ hw)) ⟨_, rfl, hS2, trivial, (fun h => by simp at h), rfl⟩)
    · obtain rfl := Option.some.inj ho
      exact wpOpIn_of rfl rfl (wpW_val (r_move (.tmp 5) rfl (hP.out 5 (dm_out (by kernel_rfl)))) ⟨_, rfl, hS2, trivial, (fun h => by simp at h), rfl⟩)
    · obtain rfl := Option.some.inj ho
      exact wpOpIn_of rfl rfl (wpW_val (r_move (.tmp 0) rfl (hP.out 0 (dm_out (by kernel_rfl)))) ⟨_, rfl, hS2, trivial, (fun h => by simp at h), rfl⟩)
    · obtain rfl := Option.some.inj ho
      exact wpOpIn_of rfl rfl (wpW_val (r_nil (.tmp 114) _ rfl (hpre ⟨10, .data⟩ (by simp) rfl).2) ⟨_, rfl, hS2, trivial, (fun h => by simp at h), rfl⟩)
    · obtain rfl := Option.some.inj ho
      exact wpOpIn_of rfl rfl (wpW_val (r_fld (.tmp 115) _ rfl (hpre ⟨11, .data⟩ (by simp) rfl).2 (fld70_1 b _)) ⟨_, rfl, hS2, trivial, (fun h => by simp at h), rfl⟩)
    · obtain rfl := Option.some.inj ho
      have h2 := not_yet hcl 27 rfl ⟨13, .phase⟩ (by simp) rfl hls
      have h1 := not_yet hcl 25 rfl ⟨13, .phase⟩ (by simp) rfl hls
      have hw := sel3 hS2 h2 h1
      exact wpOpIn_of rfl rfl (wpW_val (r_load1 40 agg22 (.tmp 116) ⟨b, 1, none⟩ rfl (hpre ⟨12, .data⟩ (by simp) rfl).2 (HFB.out _ hw)) ⟨_, rfl, hS2, trivial, (fun h => by simp at h), rfl⟩)
    · obtain rfl := Option.some.inj ho
      exact wpOpIn_of rfl rfl (wpW_val (r_move (.tmp 5) rfl (hP.out 5 (dm_out (by kernel_rfl)))) ⟨_, rfl, hS2, trivial, (fun h => by simp at h), rfl⟩)
    · obtain rfl := Option.some.inj ho
      exact wpOpIn_of rfl rfl (wpW_val (r_idx (.tmp 117) (.tmp 118) _ _ rfl (hpre ⟨13, .data⟩ (by simp) rfl).2 (hpre ⟨14, .data⟩ (by simp) rfl).2 (idx_sl Tryz.underlying40 size25 g r d p hpr _)) ⟨_, rfl, hS2, trivial, (fun h => by simp at h), rfl⟩)
    · obtain rfl := Option.some.inj ho
      have h2 := not_yet hcl 27 rfl ⟨16, .phase⟩ (by simp) rfl hls
      have h1 := not_yet hcl 25 rfl ⟨16, .phase⟩ (by simp) rfl hls
      have hw := sel3 hS2 h2 h1
      exact wpOpIn_of rfl rfl (wpW_val (r_load1 25 agg25 (.tmp 119) ⟨g, p, none⟩ rfl (hpre ⟨15, .data⟩ (by simp) rfl).2 (HFP.out _ hw)) ⟨_, rfl, hS2, trivial, (fun h => by simp at h), rfl⟩)
    · obtain rfl := Option.some.inj ho
      exact wpOpIn_of rfl rfl (wpW_val (r_move (.tmp 0) rfl (hP.out 0 (dm_out (by kernel_rfl)))) ⟨_, rfl, hS2, trivial, (fun h => by simp at h), rfl⟩)
    · obtain rfl := Option.some.inj ho
      exact wpOpIn_of rfl rfl (wpW_val (r_nil (.tmp 121) _ rfl (hpre ⟨17, .data⟩ (by simp) rfl).2) ⟨_, rfl, hS2, trivial, (fun h => by simp at h), rfl⟩)
    · obtain rfl := Option.some.inj ho
      exact wpOpIn_of rfl rfl (wpW_val (r_fld (.tmp 122) _ rfl (hpre ⟨18, .data⟩ (by simp) rfl).2 (fld70_1 b _)) ⟨_, rfl, hS2, trivial, (fun h => by simp at h), rfl⟩)
    · obtain rfl := Option.some.inj ho
      have h2 := not_yet hcl 27 rfl ⟨20, .phase⟩ (by simp) rfl hls
      have h1 := not_yet hcl 25 rfl ⟨20, .phase⟩ (by simp) rfl hls
      have hw := sel3 hS2 h2 h1
      exact wpOpIn_of rfl rfl (wpW_val (r_load1 40 agg22 (.tmp 123) ⟨b, 1, none⟩ rfl (hpre ⟨19, .data⟩ (by simp) rfl).2 (HFB.out _ hw)) ⟨_, rfl, hS2, trivial, (fun h => by simp at h), rfl⟩)
    · obtain rfl := Option.some.inj ho
      exact wpOpIn_of rfl rfl (wpW_val (r_move (.tmp 1) rfl (hP.out 1 (dm_out (by kernel_rfl)))) ⟨_, rfl, hS2, trivial, (fun h => by simp at h), rfl⟩)
    · obtain rfl := Option.some.inj ho
      exact wpOpIn_of rfl rfl (wpW_val (r_idx (.tmp 124) (.tmp 125) _ _ rfl (hpre ⟨20, .data⟩ (by simp) rfl).2 (hpre ⟨21, .data⟩ (by simp) rfl).2 (idx_sl Tryz.underlying40 size25 g r d t ht _)) ⟨_, rfl, hS2, trivial, (fun h => by simp at h), rfl⟩)
    · obtain rfl := Option.some.inj ho
      have h2 := not_yet hcl 27 rfl ⟨23, .phase⟩ (by simp) rfl hls
      have h1 := not_yet hcl 25 rfl ⟨23, .phase⟩ (by simp) rfl hls
      have hw := sel3 hS2 h2 h1
      exact wpOpIn_of rfl rfl (wpW_val (r_load1 25 agg25 (.tmp 126) ⟨g, t, none⟩ rfl (hpre ⟨22, .data⟩ (by simp) rfl).2 (HFT.out _ hw)) ⟨_, rfl, hS2, trivial, (fun h => by simp at h), rfl⟩)
    · obtain rfl := Option.some.inj ho
      exact wpOpIn_of rfl rfl (wpW_val (r_idx (.tmp 107) (.tmp 108) _ _ rfl (hpre ⟨3, .data⟩ (by simp) rfl).2 (hpre ⟨4, .data⟩ (by simp) rfl).2 (idx_sl Tryz.underlying40 size25 g r d t ht _)) ⟨_, rfl, hS2, trivial, (fun h => by simp at h), rfl⟩)
    · obtain rfl := Option.some.inj ho
      have h2 := not_yet hcl 27 rfl ⟨25, .chain⟩ (by simp) rfl hls
      have hw := sel3 hS2 h2 hls
      subst hw
      exact wpOpIn_of rfl rfl (wpW_skip (r_store1 25 (.tmp 128) (.tmp 120) _ _ _ rfl (hpre ⟨24, .data⟩ (by simp) rfl).2 (hpre ⟨16, .data⟩ (by simp) rfl).2 rfl E1.out G1.out (stS _ _ _ _ E1.out G1.out)) ⟨undef, rfl, (by show _ = bif ls 27 then _ else _; rw [h2]; rfl), trivial, fun _ => rfl, rfl⟩)
    · obtain rfl := Option.some.inj ho
      exact wpOpIn_of rfl rfl (wpW_val (r_idx (.tmp 112) (.tmp 113) _ _ rfl (hpre ⟨8, .data⟩ (by simp) rfl).2 (hpre ⟨9, .data⟩ (by simp) rfl).2 (idx_sl Tryz.underlying40 size25 g r d p hpr _)) ⟨_, rfl, hS2, trivial, (fun h => by simp at h), rfl⟩)
    · obtain rfl := Option.some.inj ho
      have h1 : ls 25 = true := (hpre ⟨25, .chain⟩ (by simp) rfl).1
      rw [hls, h1] at hS2
      change w2 = (w.drew.setCell ⟨g, t, none⟩ (.slice (some ⟨bx, 0, none⟩) r cx)) at hS2
      subst hS2
      exact wpOpIn_of rfl rfl (wpW_skip (r_store1 25 (.tmp 129) (.tmp 127) _ _ _ rfl (hpre ⟨26, .data⟩ (by simp) rfl).2 (hpre ⟨23, .data⟩ (by simp) rfl).2 rfl E2.out G2.out (stS _ _ _ _ E2.out G2.out)) ⟨undef, rfl, rfl, trivial, fun _ => rfl, rfl⟩)
  · intro ls a w2 hall hS2 hP hsl
    have h2 : ls 27 = true := hall 27 (by decide)
    rw [h2] at hS2
    obtain ⟨us, hus, hfr⟩ := hP.frame 224 rfl
    clear hsl hP hall h2 hus
    subst hfr
    subst hS2
    dsimp only
    simp only [List.range, List.range.loop, List.map_cons, List.map_nil, List.any_cons, List.any_nil, Nat.reduceAdd, Nat.reduceBEq, Nat.reduceLT, Nat.reduceEqDiff, Option.some_beq_some, Bool.or_false, if_true, if_false, List.getD_cons_zero, List.getD_cons_succ, cond_true]
    exact hend (us 104) (us 105) (us 106) (us 107) (us 108) (us 109) (us 110) (us 111) (us 112) (us 113) (us 114) (us 115) (us 116) (us 117) (us 118) (us 119) (us 120) (us 121) (us 122) (us 123) (us 124) (us 125) (us 126) (us 127) (us 128) (us 129)
set_option maxRecDepth 100000 in
set_option maxHeartbeats 2000000 in
theorem reg17_any {Q : Exit → Act → World → Prop} {w : World} {ops : Array Oper} {b g d bi ci i t pq N n : Nat} {z y : Int} {x2 x3 x4 x5 x7 x8 x10 x11 x12 x13 x14 x15 x16 x17 x18 x19 x20 x21 x22 x23 x24 x25 x26 x27 x28 x29 x30 x31 x32 x33 x34 x35 x36 x37 x38 x39 x40 x41 x42 x43 x44 x45 x46 x47 x48 x49 x50 x51 x52 x53 x54 x55 x56 x57 x58 x59 x60 x61 x62 x63 x64 x65 x66 x67 x68 x69 x70 x71 x72 x73 x74 x75 x76 x77 x78 x79 x80 x81 x82 x83 x84 x85 x86 x87 x88 x89 x90 x91 x92 x93 x94 x95 x96 x97 x98 x99 x100 x101 x102 x103 x104 x105 x106 x107 x108 x109 x110 x111 x112 x113 x114 x115 x116 x117 x118 x119 x120 x121 x122 x123 x124 x125 x126 x127 x128 x129 x130 x131 x132 x133 x134 x135 x136 x137 x138 x139 x140 x141 x142 x143 x144 x145 x146 x147 x148 x149 x150 x151 x152 x153 x154 x155 x156 x157 x158 x159 x160 x161 x162 x163 x164 x165 x166 x167 x168 x169 x170 x171 x172 x173 x174 x175 x176 x177 x178 x179 x180 x181 x182 x183 x184 x185 x186 x187 x188 x189 x190 x191 x192 x193 x194 x195 x196 x197 x198 x199 x200 x201 x202 x203 x204 x205 x206 x207 x208 x209 x210 x211 x212 x213 x214 x215 x216 x217 x218 x219 x220 x221 x222 x223 : Value} (hops : regOps 17 (Tryz.f77.body.getD .skip) = some ops)
    (y1 : w.cell? ⟨b, 0, none⟩ = some (.slice (some ⟨g, 0, none⟩) N d)) (y2 : w.cell? ⟨g, i, none⟩ = some (.slice (some ⟨bi, 0, none⟩) n ci)) (q1 : w.cell? ⟨bi, t, none⟩ = some (.int .i64 z)) (q3 : w.cell? ⟨bi, pq, none⟩ = some (.int .i64 y)) (q2 : w.frozen? ⟨bi, t, none⟩ = false) (q4 : w.frozen? ⟨bi, pq, none⟩ = false) (hil : i < N) (htn : t < n) (hpn : pq < n)
    (hend : ∀ u139 u140 u141 u142 u143 u144 u145 u146 u147 u148 u149 u150 u151 u152 u153 u154 u155 u156 u157 u158 u159 u160 u161 u162 u163 u164 u165 u166 u167 u168 u169 u170 u171 u172 u173 u174 u175 u176 : Value, Q .normal { tmps := #[.pointer (some ⟨b, 0, none⟩), .int .i64 (t : Int), x2, x3, x4, x5, .int .i64 (pq : Int), x7, x8, .int .i64 (i : Int), x10, x11, x12, x13, x14, x15, x16, x17, x18, x19, x20, x21, x22, x23, x24, x25, x26, x27, x28, x29, x30, x31, x32, x33, x34, x35, x36, x37, x38, x39, x40, x41, x42, x43, x44, x45, x46, x47, x48, x49, x50, x51, x52, x53, x54, x55, x56, x57, x58, x59, x60, x61, x62, x63, x64, x65, x66, x67, x68, x69, x70, x71, x72, x73, x74, x75, x76, x77, x78, x79, x80, x81, x82, x83, x84, x85, x86, x87, x88, x89, x90, x91, x92, x93, x94, x95, x96, x97, x98, x99, x100, x101, x102, x103, x104, x105, x106, x107, x108, x109, x110, x111, x112, x113, x114, x115, x116, x117, x118, x119, x120, x121, x122, x123, x124, x125, x126, x127, x128, x129, x130, x131, x132, x133, x134, x135, x136, x137, x138, u139, u140, u141, u142, u143, u144, u145, u146, u147, u148, u149, u150, u151, u152, u153, u154, u155, u156, u157, u158, u159, u160, u161, u162, u163, u164, u165, u166, u167, u168, u169, u170, u171, u172, u173, u174, u175, u176, x177, x178, x179, x180, x181, x182, x183, x184, x185, x186, x187, x188, x189, x190, x191, x192, x193, x194, x195, x196, x197, x198, x199, x200, x201, x202, x203, x204, x205, x206, x207, x208, x209, x210, x211, x212, x213, x214, x215, x216, x217, x218, x219, x220, x221, x222, x223], defers := [] } ((w.drew.setCell ⟨bi, t, none⟩ (.int .i64 y)).setCell ⟨bi, pq, none⟩ (.int .i64 z))) : (Code.region 17 ops true).wp Tryz.prog Q { tmps := #[.pointer (some ⟨b, 0, none⟩), .int .i64 (t : Int), x2, x3, x4, x5, .int .i64 (pq : Int), x7, x8, .int .i64 (i : Int), x10, x11, x12, x13, x14, x15, x16, x17, x18, x19, x20, x21, x22, x23, x24, x25, x26, x27, x28, x29, x30, x31, x32, x33, x34, x35, x36, x37, x38, x39, x40, x41, x42, x43, x44, x45, x46, x47, x48, x49, x50, x51, x52, x53, x54, x55, x56, x57, x58, x59, x60, x61, x62, x63, x64, x65, x66, x67, x68, x69, x70, x71, x72, x73, x74, x75, x76, x77, x78, x79, x80, x81, x82, x83, x84, x85, x86, x87, x88, x89, x90, x91, x92, x93, x94, x95, x96, x97, x98, x99, x100, x101, x102, x103, x104, x105, x106, x107, x108, x109, x110, x111, x112, x113, x114, x115, x116, x117, x118, x119, x120, x121, x122, x123, x124, x125, x126, x127, x128, x129, x130, x131, x132, x133, x134, x135, x136, x137, x138, x139, x140, x141, x142, x143, x144, x145, x146, x147, x148, x149, x150, x151, x152, x153, x154, x155, x156, x157, x158, x159, x160, x161, x162, x163, x164, x165, x166, x167, x168, x169, x170, x171, x172, x173, x174, x175, x176, x177, x178, x179, x180, x181, x182, x183, x184, x185, x186, x187, x188, x189, x190, x191, x192, x193, x194, x195, x196, x197, x198, x199, x200, x201, x202, x203, x204, x205, x206, x207, x208, x209, x210, x211, x212, x213, x214, x215, x216, x217, x218, x219, x220, x221, x222, x223], defers := [] } w := by
  have HFB : Hid (∀ W, W = w.drew → W.cell? ⟨b, 0, none⟩ = some (.slice (some ⟨g, 0, none⟩) N d)) := Lib.hid fun W hW => by rw [hW]; exact y1
  have HFI : Hid (∀ W, W = w.drew → W.cell? ⟨g, i, none⟩ = some (.slice (some ⟨bi, 0, none⟩) n ci)) := Lib.hid fun W hW => by rw [hW]; exact y2
  have HFT : Hid (∀ W, W = w.drew → W.cell? ⟨bi, t, none⟩ = some (.int .i64 z)) := Lib.hid fun W hW => by rw [hW]; exact q1
  have HFQ : Hid (∀ W, W = w.drew → W.cell? ⟨bi, pq, none⟩ = some (.int .i64 y)) := Lib.hid fun W hW => by rw [hW]; exact q3
  have E1 : Hid (w.drew.cell? ⟨bi, t, none⟩ = some (.int .i64 z)) := Lib.hid q1
  have G1 : Hid (w.drew.frozen? ⟨bi, t, none⟩ = false) := Lib.hid q2
  obtain ⟨u2, hu2⟩ := cell?_setCell_some (w := w.drew) (p := ⟨bi, t, none⟩) (q := ⟨bi, pq, none⟩) (x := .int .i64 y) q3
  have E2 := Lib.hid hu2
  have G2 : Hid ((w.drew.setCell ⟨bi, t, none⟩ (.int .i64 y)).frozen? ⟨bi, pq, none⟩ = false) := Lib.hid (by rw [World.frozen?_setCell]; exact q4)
  simp only [Tryz.f77, Option.getD_some, regOps, reduceIte, Nat.reduceEqDiff, Option.some.injEq] at hops
  subst hops
  refine (wpIn_wide (n := 3)).1 ?_
  refine wpIn_region_all (by kernel_rfl) 40 rfl (fun i => if i < 37 then some (139 + i) else if i = 37 then none else if i = 38 then some 176 else none) (lex_of (by kernel_rfl)) (fun ls W => W = bif ls 39 then ((w.drew.setCell ⟨bi, t, none⟩ (.int .i64 y)).setCell ⟨bi, pq, none⟩ (.int .i64 z)) else bif ls 37 then (w.drew.setCell ⟨bi, t, none⟩ (.int .i64 y)) else w.drew)
    (fun k9 v _ => v = ([.pointer (some ⟨b, 0, none⟩), .pointer (some ⟨b, 0, none⟩), .pointer (some ⟨b, 0, none⟩), .slice (some ⟨g, 0, none⟩) N d, .int .i64 (i : Int), .pointer (some ⟨g, i, none⟩), .slice (some ⟨bi, 0, none⟩) n ci, .int .i64 (t : Int), .pointer (some ⟨b, 0, none⟩), .pointer (some ⟨b, 0, none⟩), .pointer (some ⟨b, 0, none⟩), .slice (some ⟨g, 0, none⟩) N d, .int .i64 (i : Int), .pointer (some ⟨g, i, none⟩), .slice (some ⟨bi, 0, none⟩) n ci, .int .i64 (pq : Int), .pointer (some ⟨b, 0, none⟩), .pointer (some ⟨b, 0, none⟩), .pointer (some ⟨b, 0, none⟩), .slice (some ⟨g, 0, none⟩) N d, .int .i64 (i : Int), .pointer (some ⟨g, i, none⟩), .slice (some ⟨bi, 0, none⟩) n ci, .int .i64 (pq : Int), .pointer (some ⟨bi, pq, none⟩), .int .i64 y, .pointer (some ⟨b, 0, none⟩), .pointer (some ⟨b, 0, none⟩), .pointer (some ⟨b, 0, none⟩), .slice (some ⟨g, 0, none⟩) N d, .int .i64 (i : Int), .pointer (some ⟨g, i, none⟩), .slice (some ⟨bi, 0, none⟩) n ci, .int .i64 (t : Int), .pointer (some ⟨bi, t, none⟩), .int .i64 z, .pointer (some ⟨bi, t, none⟩), undef, .pointer (some ⟨bi, pq, none⟩), undef] : List Value).getD k9 undef) (fun _ _ _ => True) (dm_inj (by kernel_rfl)) (fun _ _ _ _ _ _ _ _ _ h => h) (dm_lt (n := 224) (by kernel_rfl)) rfl ?_ ?_
  · intro ls q o a w2 hq ho hS2 hls hcl hP hpre
    have hcases : q = 0 ∨ q = 1 ∨ q = 2 ∨ q = 3 ∨ q = 4 ∨ q = 5 ∨ q = 6 ∨ q = 7 ∨ q = 8 ∨ q = 9 ∨ q = 10 ∨ q = 11 ∨ q = 12 ∨ q = 13 ∨ q = 14 ∨ q = 15 ∨ q = 16 ∨ q = 17 ∨ q = 18 ∨ q = 19 ∨ q = 20 ∨ q = 21 ∨ q = 22 ∨ q = 23 ∨ q = 24 ∨ q = 25 ∨ q = 26 ∨ q = 27 ∨ q = 28 ∨ q = 29 ∨ q = 30 ∨ q = 31 ∨ q = 32 ∨ q = 33 ∨ q = 34 ∨ q = 35 ∨ q = 36 ∨ q = 37 ∨ q = 38 ∨ q = 39 := by
      have : q < 40 := hq
      omega
    rcases hcases with rfl | rfl | rfl | rfl | rfl | rfl | rfl | rfl | rfl | rfl | rfl | rfl | rfl | rfl | rfl | rfl | rfl | rfl | rfl | rfl | rfl | rfl | rfl | rfl | rfl | rfl | rfl | rfl | rfl | rfl | rfl | rfl | rfl | rfl | rfl | rfl | rfl | rfl | rfl | rfl
    · obtain rfl := Option.some.inj ho
      exact wpOpIn_of rfl rfl (wpW_val (r_move (.tmp 0) rfl (hP.out 0 (dm_out (by kernel_rfl)))) ⟨_, rfl, hS2, trivial, (fun h => by simp at h), rfl⟩)
    · obtain rfl := Option.some.inj ho
      exact wpOpIn_of rfl rfl (wpW_val (r_nil (.tmp 139) _ rfl (hpre ⟨0, .data⟩ (by simp) rfl).2) ⟨_, rfl, hS2, trivial, (fun h => by simp at h), rfl⟩)
    · obtain rfl := Option.some.inj ho
      exact wpOpIn_of rfl rfl (wpW_val (r_fld (.tmp 140) _ rfl (hpre ⟨1, .data⟩ (by simp) rfl).2 (fld70_0 b _)) ⟨_, rfl, hS2, trivial, (fun h => by simp at h), rfl⟩)
    · obtain rfl := Option.some.inj ho
      have h2 := not_yet hcl 39 rfl ⟨3, .phase⟩ (by simp) rfl hls
      have h1 := not_yet hcl 37 rfl ⟨3, .phase⟩ (by simp) rfl hls
      have hw := sel3 hS2 h2 h1
      exact wpOpIn_of rfl rfl (wpW_val (r_load1 40 agg22 (.tmp 141) ⟨b, 0, none⟩ rfl (hpre ⟨2, .data⟩ (by simp) rfl).2 (HFB.out _ hw)) ⟨_, rfl, hS2, trivial, (fun h => by simp at h), rfl⟩)
    · obtain rfl := Option.some.inj ho
      exact wpOpIn_of rfl rfl (wpW_val (r_move (.tmp 9) rfl (hP.out 9 (dm_out (by kernel_rfl)))) ⟨_, rfl, hS2, trivial, (fun h => by simp at h), rfl⟩)
    · obtain rfl := Option.some.inj ho
      exact wpOpIn_of rfl rfl (wpW_val (r_idx (.tmp 142) (.tmp 143) _ _ rfl (hpre ⟨3, .data⟩ (by simp) rfl).2 (hpre ⟨4, .data⟩ (by simp) rfl).2 (idx_sl Tryz.underlying40 size25 g N d i hil _)) ⟨_, rfl, hS2, trivial, (fun h => by simp at h), rfl⟩)
    · obtain rfl := Option.some.inj ho
      have h2 := not_yet hcl 39 rfl ⟨6, .phase⟩ (by simp) rfl hls
      have h1 := not_yet hcl 37 rfl ⟨6, .phase⟩ (by simp) rfl hls
      have hw := sel3 hS2 h2 h1
      exact wpOpIn_of rfl rfl (wpW_val (r_load1 25 agg25 (.tmp 144) ⟨g, i, none⟩ rfl (hpre ⟨5, .data⟩ (by simp) rfl).2 (HFI.out _ hw)) ⟨_, rfl, hS2, trivial, (fun h => by simp at h), rfl⟩)
    · obtain rfl := Option.some.inj ho
      exact wpOpIn_of rfl rfl (wpW_val (r_move (.tmp 1) rfl (hP.out 1 (dm_out (by kernel_rfl)))) ⟨_, rfl, hS2, trivial, (fun h => by simp at h), rfl⟩)
    · obtain rfl := Option.some.inj ho
      exact wpOpIn_of rfl rfl (wpW_val (r_move (.tmp 0) rfl (hP.out 0 (dm_out (by kernel_rfl)))) ⟨_, rfl, hS2, trivial, (fun h => by simp at h), rfl⟩)
    · obtain rfl := Option.some.inj ho
      exact wpOpIn_of rfl rfl (wpW_val (r_nil (.tmp 147) _ rfl (hpre ⟨8, .data⟩ (by simp) rfl).2) ⟨_, rfl, hS2, trivial, (fun h => by simp at h), rfl⟩)
    · obtain rfl := Option.some.inj ho
      exact wpOpIn_of rfl rfl (wpW_val (r_fld (.tmp 148) _ rfl (hpre ⟨9, .data⟩ (by simp) rfl).2 (fld70_0 b _)) ⟨_, rfl, hS2, trivial, (fun h => by simp at h), rfl⟩)
    · obtain rfl := Option.some.inj ho
      have h2 := not_yet hcl 39 rfl ⟨11, .phase⟩ (by simp) rfl hls
      have h1 := not_yet hcl 37 rfl ⟨11, .phase⟩ (by simp) rfl hls
      have hw := sel3 hS2 h2 h1
      exact wpOpIn_of rfl rfl (wpW_val (r_load1 40 agg22 (.tmp 149) ⟨b, 0, none⟩ rfl (hpre ⟨10, .data⟩ (by simp) rfl).2 (HFB.out _ hw)) ⟨_, rfl, hS2, trivial, (fun h => by simp at h), rfl⟩)
    · obtain rfl := Option.some.inj ho
      exact wpOpIn_of rfl rfl (wpW_val (r_move (.tmp 9) rfl (hP.out 9 (dm_out (by kernel_rfl)))) ⟨_, rfl, hS2, trivial, (fun h => by simp at h), rfl⟩)
    · obtain rfl := Option.some.inj ho
      exact wpOpIn_of rfl rfl (wpW_val (r_idx (.tmp 150) (.tmp 151) _ _ rfl (hpre ⟨11, .data⟩ (by simp) rfl).2 (hpre ⟨12, .data⟩ (by simp) rfl).2 (idx_sl Tryz.underlying40 size25 g N d i hil _)) ⟨_, rfl, hS2, trivial, (fun h => by simp at h), rfl⟩)
    · obtain rfl := Option.some.inj ho
      have h2 := not_yet hcl 39 rfl ⟨14, .phase⟩ (by simp) rfl hls
      have h1 := not_yet hcl 37 rfl ⟨14, .phase⟩ (by simp) rfl hls
      have hw := sel3 hS2 h2 h1
      exact wpOpIn_of rfl rfl (wpW_val (r_load1 25 agg25 (.tmp 152) ⟨g, i, none⟩ rfl (hpre ⟨13, .data⟩ (by simp) rfl).2 (HFI.out _ hw)) ⟨_, rfl, hS2, trivial, (fun h => by simp at h), rfl⟩)
    · obtain rfl := Option.some.inj ho
      exact wpOpIn_of rfl rfl (wpW_val (r_move (.tmp 6) rfl (hP.out 6 (dm_out (by kernel_rfl)))) ⟨_, rfl, hS2, trivial, (fun h => by simp at h), rfl⟩)
    · obtain rfl := Option.some.inj ho
      exact wpOpIn_of rfl rfl (wpW_val (r_move (.tmp 0) rfl (hP.out 0 (dm_out (by kernel_rfl)))) ⟨_, rfl, hS2, trivial, (fun h => by simp at h), rfl⟩)
    · obtain rfl := Option.some.inj ho
      exact wpOpIn_of rfl rfl (wpW_val (r_nil (.tmp 155) _ rfl (hpre ⟨16, .data⟩ (by simp) rfl).2) ⟨_, rfl, hS2, trivial, (fun h => by simp at h), rfl⟩)
    · obtain rfl := Option.some.inj ho
      exact wpOpIn_of rfl rfl (wpW_val (r_fld (.tmp 156) _ rfl (hpre ⟨17, .data⟩ (by simp) rfl).2 (fld70_0 b _)) ⟨_, rfl, hS2, trivial, (fun h => by simp at h), rfl⟩)
    · obtain rfl := Option.some.inj ho
      have h2 := not_yet hcl 39 rfl ⟨19, .phase⟩ (by simp) rfl hls
      have h1 := not_yet hcl 37 rfl ⟨19, .phase⟩ (by simp) rfl hls
      have hw := sel3 hS2 h2 h1
      exact wpOpIn_of rfl rfl (wpW_val (r_load1 40 agg22 (.tmp 157) ⟨b, 0, none⟩ rfl (hpre ⟨18, .data⟩ (by simp) rfl).2 (HFB.out _ hw)) ⟨_, rfl, hS2, trivial, (fun h => by simp at h), rfl⟩)
    · obtain rfl := Option.some.inj ho
      exact wpOpIn_of rfl rfl (wpW_val (r_move (.tmp 9) rfl (hP.out 9 (dm_out (by kernel_rfl)))) ⟨_, rfl, hS2, trivial, (fun h => by simp at h), rfl⟩)
    · obtain rfl := Option.some.inj ho
      exact wpOpIn_of rfl rfl (wpW_val (r_idx (.tmp 158) (.tmp 159) _ _ rfl (hpre ⟨19, .data⟩ (by simp) rfl).2 (hpre ⟨20, .data⟩ (by simp) rfl).2 (idx_sl Tryz.underlying40 size25 g N d i hil _)) ⟨_, rfl, hS2, trivial, (fun h => by simp at h), rfl⟩)
    · obtain rfl := Option.some.inj ho
      have h2 := not_yet hcl 39 rfl ⟨22, .phase⟩ (by simp) rfl hls
      have h1 := not_yet hcl 37 rfl ⟨22, .phase⟩ (by simp) rfl hls
      have hw := sel3 hS2 h2 h1
      exact wpOpIn_of rfl rfl (wpW_val (r_load1 25 agg25 (.tmp 160) ⟨g, i, none⟩ rfl (hpre ⟨21, .data⟩ (by simp) rfl).2 (HFI.out _ hw)) ⟨_, rfl, hS2, trivial, (fun h => by simp at h), rfl⟩)
    · obtain rfl := Option.some.inj ho
      exact wpOpIn_of rfl rfl (wpW_val (r_move (.tmp 6) rfl (hP.out 6 (dm_out (by kernel_rfl)))) ⟨_, rfl, hS2, trivial, (fun h => by simp at h), rfl⟩)
    · obtain rfl := Option.some.inj ho
      exact wpOpIn_of rfl rfl (wpW_val (r_idx (.tmp 161) (.tmp 162) _ _ rfl (hpre ⟨22, .data⟩ (by simp) rfl).2 (hpre ⟨23, .data⟩ (by simp) rfl).2 (idx_sl Tryz.underlying25 size3 bi n ci pq hpn _)) ⟨_, rfl, hS2, trivial, (fun h => by simp at h), rfl⟩)
    · obtain rfl := Option.some.inj ho
      have h2 := not_yet hcl 39 rfl ⟨25, .phase⟩ (by simp) rfl hls
      have h1 := not_yet hcl 37 rfl ⟨25, .phase⟩ (by simp) rfl hls
      have hw := sel3 hS2 h2 h1
      exact wpOpIn_of rfl rfl (wpW_val (r_load1 3 agg3 (.tmp 163) ⟨bi, pq, none⟩ rfl (hpre ⟨24, .data⟩ (by simp) rfl).2 (HFQ.out _ hw)) ⟨_, rfl, hS2, trivial, (fun h => by simp at h), rfl⟩)
    · obtain rfl := Option.some.inj ho
      exact wpOpIn_of rfl rfl (wpW_val (r_move (.tmp 0) rfl (hP.out 0 (dm_out (by kernel_rfl)))) ⟨_, rfl, hS2, trivial, (fun h => by simp at h), rfl⟩)
    · obtain rfl := Option.some.inj ho
      exact wpOpIn_of rfl rfl (wpW_val (r_nil (.tmp 165) _ rfl (hpre ⟨26, .data⟩ (by simp) rfl).2) ⟨_, rfl, hS2, trivial, (fun h => by simp at h), rfl⟩)
    · obtain rfl := Option.some.inj ho
      exact wpOpIn_of rfl rfl (wpW_val (r_fld (.tmp 166) _ rfl (hpre ⟨27, .data⟩ (by simp) rfl).2 (fld70_0 b _)) ⟨_, rfl, hS2, trivial, (fun h => by simp at h), rfl⟩)
    · obtain rfl := Option.some.inj ho
      have h2 := not_yet hcl 39 rfl ⟨29, .phase⟩ (by simp) rfl hls
      have h1 := not_yet hcl 37 rfl ⟨29, .phase⟩ (by simp) rfl hls
      have hw := sel3 hS2 h2 h1
      exact wpOpIn_of rfl rfl (wpW_val (r_load1 40 agg22 (.tmp 167) ⟨b, 0, none⟩ rfl (hpre ⟨28, .data⟩ (by simp) rfl).2 (HFB.out _ hw)) ⟨_, rfl, hS2, trivial, (fun h => by simp at h), rfl⟩)
    · obtain rfl := Option.some.inj ho
      exact wpOpIn_of rfl rfl (wpW_val (r_move (.tmp 9) rfl (hP.out 9 (dm_out (by kernel_rfl)))) ⟨_, rfl, hS2, trivial, (fun h => by simp at h), rfl⟩)
    · obtain rfl := Option.some.inj ho
      exact wpOpIn_of rfl rfl (wpW_val (r_idx (.tmp 168) (.tmp 169) _ _ rfl (hpre ⟨29, .data⟩ (by simp) rfl).2 (hpre ⟨30, .data⟩ (by simp) rfl).2 (idx_sl Tryz.underlying40 size25 g N d i hil _)) ⟨_, rfl, hS2, trivial, (fun h => by simp at h), rfl⟩)
    · obtain rfl := Option.some.inj ho
      have h2 := not_yet hcl 39 rfl ⟨32, .phase⟩ (by simp) rfl hls
      have h1 := not_yet hcl 37 rfl ⟨32, .phase⟩ (by simp) rfl hls
      have hw := sel3 hS2 h2 h1
      exact wpOpIn_of rfl rfl (wpW_val (r_load1 25 agg25 (.tmp 170) ⟨g, i, none⟩ rfl (hpre ⟨31, .data⟩ (by simp) rfl).2 (HFI.out _ hw)) ⟨_, rfl, hS2, trivial, (fun h => by simp at h), rfl⟩)
    · obtain rfl := Option.some.inj ho
      exact wpOpIn_of rfl rfl (wpW_val (r_move (.tmp 1) rfl (hP.out 1 (dm_out (by kernel_rfl)))) ⟨_, rfl, hS2, trivial, (fun h => by simp at h), rfl⟩)
    · obtain rfl := Option.some.inj ho
      exact wpOpIn_of rfl rfl (wpW_val (r_idx (.tmp 171) (.tmp 172) _ _ rfl (hpre ⟨32, .data⟩ (by simp) rfl).2 (hpre ⟨33, .data⟩ (by simp) rfl).2 (idx_sl Tryz.underlying25 size3 bi n ci t htn _)) ⟨_, rfl, hS2, trivial, (fun h => by simp at h), rfl⟩)
    · obtain rfl := Option.some.inj ho
      have h2 := not_yet hcl 39 rfl ⟨35, .phase⟩ (by simp) rfl hls
      have h1 := not_yet hcl 37 rfl ⟨35, .phase⟩ (by simp) rfl hls
      have hw := sel3 hS2 h2 h1
      exact wpOpIn_of rfl rfl (wpW_val (r_load1 3 agg3 (.tmp 173) ⟨bi, t, none⟩ rfl (hpre ⟨34, .data⟩ (by simp) rfl).2 (HFT.out _ hw)) ⟨_, rfl, hS2, trivial, (fun h => by simp at h), rfl⟩)
    · obtain rfl := Option.some.inj ho
      exact wpOpIn_of rfl rfl (wpW_val (r_idx (.tmp 145) (.tmp 146) _ _ rfl (hpre ⟨6, .data⟩ (by simp) rfl).2 (hpre ⟨7, .data⟩ (by simp) rfl).2 (idx_sl Tryz.underlying25 size3 bi n ci t htn _)) ⟨_, rfl, hS2, trivial, (fun h => by simp at h), rfl⟩)
    · obtain rfl := Option.some.inj ho
      have h2 := not_yet hcl 39 rfl ⟨37, .chain⟩ (by simp) rfl hls
      have hw := sel3 hS2 h2 hls
      subst hw
      exact wpOpIn_of rfl rfl (wpW_skip (r_store1 3 (.tmp 175) (.tmp 164) _ _ _ rfl (hpre ⟨36, .data⟩ (by simp) rfl).2 (hpre ⟨25, .data⟩ (by simp) rfl).2 rfl E1.out G1.out (stI _ _ E1.out G1.out)) ⟨undef, rfl, (by show _ = bif ls 39 then _ else _; rw [h2]; rfl), trivial, fun _ => rfl, rfl⟩)
    · obtain rfl := Option.some.inj ho
      exact wpOpIn_of rfl rfl (wpW_val (r_idx (.tmp 153) (.tmp 154) _ _ rfl (hpre ⟨14, .data⟩ (by simp) rfl).2 (hpre ⟨15, .data⟩ (by simp) rfl).2 (idx_sl Tryz.underlying25 size3 bi n ci pq hpn _)) ⟨_, rfl, hS2, trivial, (fun h => by simp at h), rfl⟩)
    · obtain rfl := Option.some.inj ho
      have h1 : ls 37 = true := (hpre ⟨37, .chain⟩ (by simp) rfl).1
      rw [hls, h1] at hS2
      change w2 = (w.drew.setCell ⟨bi, t, none⟩ (.int .i64 y)) at hS2
      subst hS2
      exact wpOpIn_of rfl rfl (wpW_skip (r_store1 3 (.tmp 176) (.tmp 174) _ _ _ rfl (hpre ⟨38, .data⟩ (by simp) rfl).2 (hpre ⟨35, .data⟩ (by simp) rfl).2 rfl E2.out G2.out (stI _ _ E2.out G2.out)) ⟨undef, rfl, rfl, trivial, fun _ => rfl, rfl⟩)
  · intro ls a w2 hall hS2 hP hsl
    have h2 : ls 39 = true := hall 39 (by decide)
    rw [h2] at hS2
    obtain ⟨us, hus, hfr⟩ := hP.frame 224 rfl
    clear hsl hP hall h2 hus
    subst hfr
    subst hS2
    dsimp only
    simp only [List.range, List.range.loop, List.map_cons, List.map_nil, List.any_cons, List.any_nil, Nat.reduceAdd, Nat.reduceBEq, Nat.reduceLT, Nat.reduceEqDiff, Option.some_beq_some, Bool.or_false, if_true, if_false, List.getD_cons_zero, List.getD_cons_succ, cond_true]
    exact hend (us 139) (us 140) (us 141) (us 142) (us 143) (us 144) (us 145) (us 146) (us 147) (us 148) (us 149) (us 150) (us 151) (us 152) (us 153) (us 154) (us 155) (us 156) (us 157) (us 158) (us 159) (us 160) (us 161) (us 162) (us 163) (us 164) (us 165) (us 166) (us 167) (us 168) (us 169) (us 170) (us 171) (us 172) (us 173) (us 174) (us 175) (us 176)
set_option maxRecDepth 100000 in
set_option maxHeartbeats 2000000 in
theorem reg21_any {Q : Exit → Act → World → Prop} {w : World} {ops : Array Oper} {b g d bi ci i t pq N n : Nat} {z y : Int} {x2 x3 x4 x5 x7 x8 x9 x11 x12 x13 x14 x15 x16 x17 x18 x19 x20 x21 x22 x23 x24 x25 x26 x27 x28 x29 x30 x31 x32 x33 x34 x35 x36 x37 x38 x39 x40 x41 x42 x43 x44 x45 x46 x47 x48 x49 x50 x51 x52 x53 x54 x55 x56 x57 x58 x59 x60 x61 x62 x63 x64 x65 x66 x67 x68 x69 x70 x71 x72 x73 x74 x75 x76 x77 x78 x79 x80 x81 x82 x83 x84 x85 x86 x87 x88 x89 x90 x91 x92 x93 x94 x95 x96 x97 x98 x99 x100 x101 x102 x103 x104 x105 x106 x107 x108 x109 x110 x111 x112 x113 x114 x115 x116 x117 x118 x119 x120 x121 x122 x123 x124 x125 x126 x127 x128 x129 x130 x131 x132 x133 x134 x135 x136 x137 x138 x139 x140 x141 x142 x143 x144 x145 x146 x147 x148 x149 x150 x151 x152 x153 x154 x155 x156 x157 x158 x159 x160 x161 x162 x163 x164 x165 x166 x167 x168 x169 x170 x171 x172 x173 x174 x175 x176 x177 x178 x179 x180 x181 x182 x183 x184 x185 x186 x187 x188 x189 x190 x191 x192 x193 x194 x195 x196 x197 x198 x199 x200 x201 x202 x203 x204 x205 x206 x207 x208 x209 x210 x211 x212 x213 x214 x215 x216 x217 x218 x219 x220 x221 x222 x223 : Value} (hops : regOps 21 (Tryz.f77.body.getD .skip) = some ops)
    (y1 : w.cell? ⟨b, 2, none⟩ = some (.slice (some ⟨g, 0, none⟩) N d)) (y2 : w.cell? ⟨g, i, none⟩ = some (.slice (some ⟨bi, 0, none⟩) n ci)) (q1 : w.cell? ⟨bi, t, none⟩ = some (.int .i64 z)) (q3 : w.cell? ⟨bi, pq, none⟩ = some (.int .i64 y)) (q2 : w.frozen? ⟨bi, t, none⟩ = false) (q4 : w.frozen? ⟨bi, pq, none⟩ = false) (hil : i < N) (htn : t < n) (hpn : pq < n)
    (hend : ∀ u186 u187 u188 u189 u190 u191 u192 u193 u194 u195 u196 u197 u198 u199 u200 u201 u202 u203 u204 u205 u206 u207 u208 u209 u210 u211 u212 u213 u214 u215 u216 u217 u218 u219 u220 u221 u222 u223 : Value, Q .normal { tmps := #[.pointer (some ⟨b, 0, none⟩), .int .i64 (t : Int), x2, x3, x4, x5, .int .i64 (pq : Int), x7, x8, x9, .int .i64 (i : Int), x11, x12, x13, x14, x15, x16, x17, x18, x19, x20, x21, x22, x23, x24, x25, x26, x27, x28, x29, x30, x31, x32, x33, x34, x35, x36, x37, x38, x39, x40, x41, x42, x43, x44, x45, x46, x47, x48, x49, x50, x51, x52, x53, x54, x55, x56, x57, x58, x59, x60, x61, x62, x63, x64, x65, x66, x67, x68, x69, x70, x71, x72, x73, x74, x75, x76, x77, x78, x79, x80, x81, x82, x83, x84, x85, x86, x87, x88, x89, x90, x91, x92, x93, x94, x95, x96, x97, x98, x99, x100, x101, x102, x103, x104, x105, x106, x107, x108, x109, x110, x111, x112, x113, x114, x115, x116, x117, x118, x119, x120, x121, x122, x123, x124, x125, x126, x127, x128, x129, x130, x131, x132, x133, x134, x135, x136, x137, x138, x139, x140, x141, x142, x143, x144, x145, x146, x147, x148, x149, x150, x151, x152, x153, x154, x155, x156, x157, x158, x159, x160, x161, x162, x163, x164, x165, x166, x167, x168, x169, x170, x171, x172, x173, x174, x175, x176, x177, x178, x179, x180, x181, x182, x183, x184, x185, u186, u187, u188, u189, u190, u191, u192, u193, u194, u195, u196, u197, u198, u199, u200, u201, u202, u203, u204, u205, u206, u207, u208, u209, u210, u211, u212, u213, u214, u215, u216, u217, u218, u219, u220, u221, u222, u223], defers := [] } ((w.drew.setCell ⟨bi, t, none⟩ (.int .i64 y)).setCell ⟨bi, pq, none⟩ (.int .i64 z))) : (Code.region 21 ops true).wp Tryz.prog Q { tmps := #[.pointer (some ⟨b, 0, none⟩), .int .i64 (t : Int), x2, x3, x4, x5, .int .i64 (pq : Int), x7, x8, x9, .int .i64 (i : Int), x11, x12, x13, x14, x15, x16, x17, x18, x19, x20, x21, x22, x23, x24, x25, x26, x27, x28, x29, x30, x31, x32, x33, x34, x35, x36, x37, x38, x39, x40, x41, x42, x43, x44, x45, x46, x47, x48, x49, x50, x51, x52, x53, x54, x55, x56, x57, x58, x59, x60, x61, x62, x63, x64, x65, x66, x67, x68, x69, x70, x71, x72, x73, x74, x75, x76, x77, x78, x79, x80, x81, x82, x83, x84, x85, x86, x87, x88, x89, x90, x91, x92, x93, x94, x95, x96, x97, x98, x99, x100, x101, x102, x103, x104, x105, x106, x107, x108, x109, x110, x111, x112, x113, x114, x115, x116, x117, x118, x119, x120, x121, x122, x123, x124, x125, x126, x127, x128, x129, x130, x131, x132, x133, x134, x135, x136, x137, x138, x139, x140, x141, x142, x143, x144, x145, x146, x147, x148, x149, x150, x151, x152, x153, x154, x155, x156, x157, x158, x159, x160, x161, x162, x163, x164, x165, x166, x167, x168, x169, x170, x171, x172, x173, x174, x175, x176, x177, x178, x179, x180, x181, x182, x183, x184, x185, x186, x187, x188, x189, x190, x191, x192, x193, x194, x195, x196, x197, x198, x199, x200, x201, x202, x203, x204, x205, x206, x207, x208, x209, x210, x211, x212, x213, x214, x215, x216, x217, x218, x219, x220, x221, x222, x223], defers := [] } w := by
  have HFB : Hid (∀ W, W = w.drew → W.cell? ⟨b, 2, none⟩ = some (.slice (some ⟨g, 0, none⟩) N d)) := Lib.hid fun W hW => by rw [hW]; exact y1
  have HFI : Hid (∀ W, W = w.drew → W.cell? ⟨g, i, none⟩ = some (.slice (some ⟨bi, 0, none⟩) n ci)) := Lib.hid fun W hW => by rw [hW]; exact y2
  have HFT : Hid (∀ W, W = w.drew → W.cell? ⟨bi, t, none⟩ = some (.int .i64 z)) := Lib.hid fun W hW => by rw [hW]; exact q1
  have HFQ : Hid (∀ W, W = w.drew → W.cell? ⟨bi, pq, none⟩ = some (.int .i64 y)) := Lib.hid fun W hW => by rw [hW]; exact q3
  have E1 : Hid (w.drew.cell? ⟨bi, t, none⟩ = some (.int .i64 z)) := Lib.hid q1
  have G1 : Hid (w.drew.frozen? ⟨bi, t, none⟩ = false) := Lib.hid q2
  obtain ⟨u2, hu2⟩ := cell?_setCell_some (w := w.drew) (p := ⟨bi, t, none⟩) (q := ⟨bi, pq, none⟩) (x := .int .i64 y) q3
  have E2 := Lib.hid hu2
  have G2 : Hid ((w.drew.setCell ⟨bi, t, none⟩ (.int .i64 y)).frozen? ⟨bi, pq, none⟩ = false) := Lib.hid (by rw [World.frozen?_setCell]; exact q4)
  simp only [Tryz.f77, Option.getD_some, regOps, reduceIte, Nat.reduceEqDiff, Option.some.injEq] at hops
  subst hops
  refine (wpIn_wide (n := 3)).1 ?_
  refine wpIn_region_all (by kernel_rfl) 40 rfl (fun i => if i < 37 then some (186 + i) else if i = 37 then none else if i = 38 then some 223 else none) (lex_of (by kernel_rfl)) (fun ls W => W = bif ls 39 then ((w.drew.setCell ⟨bi, t, none⟩ (.int .i64 y)).setCell ⟨bi, pq, none⟩ (.int .i64 z)) else bif ls 37 then (w.drew.setCell ⟨bi, t, none⟩ (.int .i64 y)) else w.drew)
    (fun k9 v _ => v = ([.pointer (some ⟨b, 0, none⟩), .pointer (some ⟨b, 0, none⟩), .pointer (some ⟨b, 2, none⟩), .slice (some ⟨g, 0, none⟩) N d, .int .i64 (i : Int), .pointer (some ⟨g, i, none⟩), .slice (some ⟨bi, 0, none⟩) n ci, .int .i64 (t : Int), .pointer (some ⟨b, 0, none⟩), .pointer (some ⟨b, 0, none⟩), .pointer (some ⟨b, 2, none⟩), .slice (some ⟨g, 0, none⟩) N d, .int .i64 (i : Int), .pointer (some ⟨g, i, none⟩), .slice (some ⟨bi, 0, none⟩) n ci, .int .i64 (pq : Int), .pointer (some ⟨b, 0, none⟩), .pointer (some ⟨b, 0, none⟩), .pointer (some ⟨b, 2, none⟩), .slice (some ⟨g, 0, none⟩) N d, .int .i64 (i : Int), .pointer (some ⟨g, i, none⟩), .slice (some ⟨bi, 0, none⟩) n ci, .int .i64 (pq : Int), .pointer (some ⟨bi, pq, none⟩), .int .i64 y, .pointer (some ⟨b, 0, none⟩), .pointer (some ⟨b, 0, none⟩), .pointer (some ⟨b, 2, none⟩), .slice (some ⟨g, 0, none⟩) N d, .int .i64 (i : Int), .pointer (some ⟨g, i, none⟩), .slice (some ⟨bi, 0, none⟩) n ci, .int .i64 (t : Int), .pointer (some ⟨bi, t, none⟩), .int .i64 z, .pointer (some ⟨bi, t, none⟩), undef, .pointer (some ⟨bi, pq, none⟩), undef] : List Value).getD k9 undef) (fun _ _ _ => True) (dm_inj (by kernel_rfl)) (fun _ _ _ _ _ _ _ _ _ h => h) (dm_lt (n := 224) (by kernel_rfl)) rfl ?_ ?_
  · intro ls q o a w2 hq ho hS2 hls hcl hP hpre
    have hcases : q = 0 ∨ q = 1 ∨ q = 2 ∨ q = 3 ∨ q = 4 ∨ q = 5 ∨ q = 6 ∨ q = 7 ∨ q = 8 ∨ q = 9 ∨ q = 10 ∨ q = 11 ∨ q = 12 ∨ q = 13 ∨ q = 14 ∨ q = 15 ∨ q = 16 ∨ q = 17 ∨ q = 18 ∨ q = 19 ∨ q = 20 ∨ q = 21 ∨ q = 22 ∨ q = 23 ∨ q = 24 ∨ q = 25 ∨ q = 26 ∨ q = 27 ∨ q = 28 ∨ q = 29 ∨ q = 30 ∨ q = 31 ∨ q = 32 ∨ q = 33 ∨ q = 34 ∨ q = 35 ∨ q = 36 ∨ q = 37 ∨ q = 38 ∨ q = 39 := by
      have : q < 40 := hq
      omega
    rcases hcases with rfl | rfl | rfl | rfl | rfl | rfl | rfl | rfl | rfl | rfl | rfl | rfl | rfl | rfl | rfl | rfl | rfl | rfl | rfl | rfl | rfl | rfl | rfl | rfl | rfl | rfl | rfl | rfl | rfl | rfl | rfl | rfl | rfl | rfl | rfl | rfl | rfl | rfl | rfl | rfl
    · obtain rfl := Option.some.inj ho
      exact wpOpIn_of rfl rfl (wpW_val (r_move (.tmp 0) rfl (hP.out 0 (dm_out (by kernel_rfl)))) ⟨_, rfl, hS2, trivial, (fun h => by simp at h), rfl⟩)
    · obtain rfl := Option.some.inj ho
      exact wpOpIn_of rfl rfl (wpW_val (r_nil (.tmp 186) _ rfl (hpre ⟨0, .data⟩ (by simp) rfl).2) ⟨_, rfl, hS2, trivial, (fun h => by simp at h), rfl⟩)
    · obtain rfl := Option.some.inj ho
      exact wpOpIn_of rfl rfl (wpW_val (r_fld (.tmp 187) _ rfl (hpre ⟨1, .data⟩ (by simp) rfl).2 (fld70_2 b _)) ⟨_, rfl, hS2, trivial, (fun h => by simp at h), rfl⟩)
    · obtain rfl := Option.some.inj ho
      have h2 := not_yet hcl 39 rfl ⟨3, .phase⟩ (by simp) rfl hls
      have h1 := not_yet hcl 37 rfl ⟨3, .phase⟩ (by simp) rfl hls
      have hw := sel3 hS2 h2 h1
      exact wpOpIn_of rfl rfl (wpW_val (r_load1 40 agg22 (.tmp 188) ⟨b, 2, none⟩ rfl (hpre ⟨2, .data⟩ (by simp) rfl).2 (HFB.out _ hw)) ⟨_, rfl, hS2, trivial, (fun h => by simp at h), rfl⟩)
    · obtain rfl := Option.some.inj ho
      exact wpOpIn_of rfl rfl (wpW_val (r_move (.tmp 10) rfl (hP.out 10 (dm_out (by kernel_rfl)))) ⟨_, rfl, hS2, trivial, (fun h => by simp at h), rfl⟩)
    · obtain rfl := Option.some.inj ho
      exact wpOpIn_of rfl rfl (wpW_val (r_idx (.tmp 189) (.tmp 190) _ _ rfl (hpre ⟨3, .data⟩ (by simp) rfl).2 (hpre ⟨4, .data⟩ (by simp) rfl).2 (idx_sl Tryz.underlying40 size25 g N d i hil _)) ⟨_, rfl, hS2, trivial, (fun h => by simp at h), rfl⟩)
    · obtain rfl := Option.some.inj ho
      have h2 := not_yet hcl 39 rfl ⟨6, .phase⟩ (by simp) rfl hls
      have h1 := not_yet hcl 37 rfl ⟨6, .phase⟩ (by simp) rfl hls
      have hw := sel3 hS2 h2 h1
      exact wpOpIn_of rfl rfl (wpW_val (r_load1 25 agg25 (.tmp 191) ⟨g, i, none⟩ rfl (hpre ⟨5, .data⟩ (by simp) rfl).2 (HFI.out _ hw)) ⟨_, rfl, hS2, trivial, (fun h => by simp at h), rfl⟩)
    · obtain rfl := Option.some.inj ho
      exact wpOpIn_of rfl rfl (wpW_val (r_move (.tmp 1) rfl (hP.out 1 (dm_out (by kernel_rfl)))) ⟨_, rfl, hS2, trivial, (fun h => by simp at h), rfl⟩)
    · obtain rfl := Option.some.inj ho
      exact wpOpIn_of rfl rfl (wpW_val (r_move (.tmp 0) rfl (hP.out 0 (dm_out (by kernel_rfl)))) ⟨_, rfl, hS2, trivial, (fun h => by simp at h), rfl⟩)
    · obtain rfl := Option.some.inj ho
      exact wpOpIn_of rfl rfl (wpW_val (r_nil (.tmp 194) _ rfl (hpre ⟨8, .data⟩ (by simp) rfl).2) ⟨_, rfl, hS2, trivial, (fun h => by simp at h), rfl⟩)
    · obtain rfl := Option.some.inj ho
      exact wpOpIn_of rfl rfl (wpW_val (r_fld (.tmp 195) _ rfl (hpre ⟨9, .data⟩ (by simp) rfl).2 (fld70_2 b _)) ⟨_, rfl, hS2, trivial, (fun h => by simp at h), rfl⟩)
    · obtain rfl := Option.some.inj ho
      have h2 := not_yet hcl 39 rfl ⟨11, .phase⟩ (by simp) rfl hls
      have h1 := not_yet hcl 37 rfl ⟨11, .phase⟩ (by simp) rfl hls
      have hw := sel3 hS2 h2 h1
      exact wpOpIn_of rfl rfl (wpW_val (r_load1 40 agg22 (.tmp 196) ⟨b, 2, none⟩ rfl (hpre ⟨10, .data⟩ (by simp) rfl).2 (HFB.out _ hw)) ⟨_, rfl, hS2, trivial, (fun h => by simp at h), rfl⟩)
    · obtain rfl := Option.some.inj ho
      exact wpOpIn_of rfl rfl (wpW_val (r_move (.tmp 10) rfl (hP.out 10 (dm_out (by kernel_rfl)))) ⟨_, rfl, hS2, trivial, (fun h => by simp at h), rfl⟩)
    · obtain rfl := Option.some.inj ho
      exact wpOpIn_of rfl rfl (wpW_val (r_idx (.tmp 197) (.tmp 198) _ _ rfl (hpre ⟨11, .data⟩ (by simp) rfl).2 (hpre ⟨12, .data⟩ (by simp) rfl).2 (idx_sl Tryz.underlying40 size25 g N d i hil _)) ⟨_, rfl, hS2, trivial, (fun h => by simp at h), rfl⟩)
    · obtain rfl := Option.some.inj ho
      have h2 := not_yet hcl 39 rfl ⟨14, .phase⟩ (by simp) rfl hls
      have h1 := not_yet hcl 37 rfl ⟨14, .phase⟩ (by simp) rfl hls
      have hw := sel3 hS2 h2 h1
      exact wpOpIn_of rfl rfl (wpW_val (r_load1 25 agg25 (.tmp 199) ⟨g, i, none⟩ rfl (hpre ⟨13, .data⟩ (by simp) rfl).2 (HFI.out _ hw)) ⟨_, rfl, hS2, trivial, (fun h => by simp at h), rfl⟩)
    · obtain rfl := Option.some.inj ho
      exact wpOpIn_of rfl rfl (wpW_val (r_move (.tmp 6) rfl (hP.out 6 (dm_out (by kernel_rfl)))) ⟨_, rfl, hS2, trivial, (fun h => by simp at h), rfl⟩)
    · obtain rfl := Option.some.inj ho
      exact wpOpIn_of rfl rfl (wpW_val (r_move (.tmp 0) rfl (hP.out 0 (dm_out (by kernel_rfl)))) ⟨_, rfl, hS2, trivial, (fun h => by simp at h), rfl⟩)
    · obtain rfl := Option.some.inj ho
      exact wpOpIn_of rfl rfl (wpW_val (r_nil (.tmp 202) _ rfl (hpre ⟨16, .data⟩ (by simp) rfl).2) ⟨_, rfl, hS2, trivial, (fun h => by simp at h), rfl⟩)
    · obtain rfl := Option.some.inj ho
      exact wpOpIn_of rfl rfl (wpW_val (r_fld (.tmp 203) _ rfl (hpre ⟨17, .data⟩ (by simp) rfl).2 (fld70_2 b _)) ⟨_, rfl, hS2, trivial, (fun h => by simp at h), rfl⟩)
    · obtain rfl := Option.some.inj ho
      have h2 := not_yet hcl 39 rfl ⟨19, .phase⟩ (by simp) rfl hls
      have h1 := not_yet hcl 37 rfl ⟨19, .phase⟩ (by simp) rfl hls
      have hw := sel3 hS2 h2 h1
      exact wpOpIn_of rfl rfl (wpW_val (r_load1 40 agg22 (.tmp 204) ⟨b, 2, none⟩ rfl (hpre ⟨18, .data⟩ (by simp) rfl).2 (HFB.out _ hw)) ⟨_, rfl, hS2, trivial, (fun h => by simp at h), rfl⟩)
    · obtain rfl := Option.some.inj ho
      exact wpOpIn_of rfl rfl (wpW_val (r_move (.tmp 10) rfl (hP.out 10 (dm_out (by kernel_rfl)))) ⟨_, rfl, hS2, trivial, (fun h => by simp at h), rfl⟩)
    · obtain rfl := Option.some.inj ho
      exact wpOpIn_of rfl rfl (wpW_val (r_idx (.tmp 205) (.tmp 206) _ _ rfl (hpre ⟨19, .data⟩ (by simp) rfl).2 (hpre ⟨20, .data⟩ (by simp) rfl).2 (idx_sl Tryz.underlying40 size25 g N d i hil _)) ⟨_, rfl, hS2, trivial, (fun h => by simp at h), rfl⟩)
    · obtain rfl := Option.some.inj ho
      have h2 := not_yet hcl 39 rfl ⟨22, .phase⟩ (by simp) rfl hls
      have h1 := not_yet hcl 37 rfl ⟨22, .phase⟩ (by simp) rfl hls
      have hw := sel3 hS2 h2 h1
      exact wpOpIn_of rfl rfl (wpW_val (r_load1 25 agg25 (.tmp 207) ⟨g, i, none⟩ rfl (hpre ⟨21, .data⟩ (by simp) rfl).2 (HFI.out _ hw)) ⟨_, rfl, hS2, trivial, (fun h => by simp at h), rfl⟩)
    · obtain rfl := Option.some.inj ho
      exact wpOpIn_of rfl rfl (wpW_val (r_move (.tmp 6) rfl (hP.out 6 (dm_out (by kernel_rfl)))) ⟨_, rfl, hS2, trivial, (fun h => by simp at h), rfl⟩)
    · obtain rfl := Option.some.inj ho
      exact wpOpIn_of rfl rfl (wpW_val (r_idx (.tmp 208) (.tmp 209) _ _ rfl (hpre ⟨22, .data⟩ (by simp) rfl).2 (hpre ⟨23, .data⟩ (by simp) rfl).2 (idx_sl Tryz.underlying25 size3 bi n ci pq hpn _)) ⟨_, rfl, hS2, trivial, (fun h => by simp at h), rfl⟩)
    · obtain rfl := Option.some.inj ho
      have h2 := not_yet hcl 39 rfl ⟨25, .phase⟩ (by simp) rfl hls
      have h1 := not_yet hcl 37 rfl ⟨25, .phase⟩ (by simp) rfl hls
      have hw := sel3 hS2 h2 h1
      exact wpOpIn_of rfl rfl (wpW_val (r_load1 3 agg3 (.tmp 210) ⟨bi, pq, none⟩ rfl (hpre ⟨24, .data⟩ (by simp) rfl).2 (HFQ.out _ hw)) ⟨_, rfl, hS2, trivial, (fun h => by simp at h), rfl⟩)
    · obtain rfl := Option.some.inj ho
      exact wpOpIn_of rfl rfl (wpW_val (r_move (.tmp 0) rfl (hP.out 0 (dm_out (by kernel_rfl)))) ⟨_, rfl, hS2, trivial, (fun h => by simp at h), rfl⟩)
    · obtain rfl := Option.some.inj ho
      exact wpOpIn_of rfl rfl (wpW_val (r_nil (.tmp 212) _ rfl (hpre ⟨26, .data⟩ (by simp) rfl).2) ⟨_, rfl, hS2, trivial, (fun h => by simp at h), rfl⟩)
    · obtain rfl := Option.some.inj ho
      exact wpOpIn_of rfl rfl (wpW_val (r_fld (.tmp 213) _ rfl (hpre ⟨27, .data⟩ (by simp) rfl).2 (fld70_2 b _)) ⟨_, rfl, hS2, trivial, (fun h => by simp at h), rfl⟩)
    · obtain rfl := Option.some.inj ho
      have h2 := not_yet hcl 39 rfl ⟨29, .phase⟩ (by simp) rfl hls
      have h1 := not_yet hcl 37 rfl ⟨29, .phase⟩ (by simp) rfl hls
      have hw := sel3 hS2 h2 h1
      exact wpOpIn_of rfl rfl (wpW_val (r_load1 40 agg22 (.tmp 214) ⟨b, 2, none⟩ rfl (hpre ⟨28, .data⟩ (by simp) rfl).2 (HFB.out _ hw)) ⟨_, rfl, hS2, trivial, (fun h => by simp at h), rfl⟩)
    · obtain rfl := Option.some.inj ho
      exact wpOpIn_of rfl rfl (wpW_val (r_move (.tmp 10) rfl (hP.out 10 (dm_out (by kernel_rfl)))) ⟨_, rfl, hS2, trivial, (fun h => by simp at h), rfl⟩)
    · obtain rfl := Option.some.inj ho
      exact wpOpIn_of rfl rfl (wpW_val (r_idx (.tmp 215) (.tmp 216) _ _ rfl (hpre ⟨29, .data⟩ (by simp) rfl).2 (hpre ⟨30, .data⟩ (by simp) rfl).2 (idx_sl Tryz.underlying40 size25 g N d i hil _)) ⟨_, rfl, hS2, trivial, (fun h => by simp at h), rfl⟩)
    · obtain rfl := Option.some.inj ho
      have h2 := not_yet hcl 39 rfl ⟨32, .phase⟩ (by simp) rfl hls
      have h1 := not_yet hcl 37 rfl ⟨32, .phase⟩ (by simp) rfl hls
      have hw := sel3 hS2 h2 h1
      exact wpOpIn_of rfl rfl (wpW_val (r_load1 25 agg25 (.tmp 217) ⟨g, i, none⟩ rfl (hpre ⟨31, .data⟩ (by simp) rfl).2 (HFI.out _ hw)) ⟨_, rfl, hS2, trivial, (fun h => by simp at h), rfl⟩)
    · obtain rfl := Option.some.inj ho
      exact wpOpIn_of rfl rfl (wpW_val (r_move (.tmp 1) rfl (hP.out 1 (dm_out (by kernel_rfl)))) ⟨_, rfl, hS2, trivial, (fun h => by simp at h), rfl⟩)
    · obtain rfl := Option.some.inj ho
      exact wpOpIn_of rfl rfl (wpW_val (r_idx (.tmp 218) (.tmp 219) _ _ rfl (hpre ⟨32, .data⟩ (by simp) rfl).2 (hpre ⟨33, .data⟩ (by simp) rfl).2 (idx_sl Tryz.underlying25 size3 bi n ci t htn _)) ⟨_, rfl, hS2, trivial, (fun h => by simp at h), rfl⟩)
    · obtain rfl := Option.some.inj ho
      have h2 := not_yet hcl 39 rfl ⟨35, .phase⟩ (by simp) rfl hls
      have h1 := not_yet hcl 37 rfl ⟨35, .phase⟩ (by simp) rfl hls
      have hw := sel3 hS2 h2 h1
      exact wpOpIn_of rfl rfl (wpW_val (r_load1 3 agg3 (.tmp 220) ⟨bi, t, none⟩ rfl (hpre ⟨34, .data⟩ (by simp) rfl).2 (HFT.out _ hw)) ⟨_, rfl, hS2, trivial, (fun h => by simp at h), rfl⟩)
    · obtain rfl := Option.some.inj ho
      exact wpOpIn_of rfl rfl (wpW_val (r_idx (.tmp 192) (.tmp 193) _ _ rfl (hpre ⟨6, .data⟩ (by simp) rfl).2 (hpre ⟨7, .data⟩ (by simp) rfl).2 (idx_sl Tryz.underlying25 size3 bi n ci t htn _)) ⟨_, rfl, hS2, trivial, (fun h => by simp at h), rfl⟩)
    · obtain rfl := Option.some.inj ho
      have h2 := not_yet hcl 39 rfl ⟨37, .chain⟩ (by simp) rfl hls
      have hw := sel3 hS2 h2 hls
      subst hw
      exact wpOpIn_of rfl rfl (wpW_skip (r_store1 3 (.tmp 222) (.tmp 211) _ _ _ rfl (hpre ⟨36, .data⟩ (by simp) rfl).2 (hpre ⟨25, .data⟩ (by simp) rfl).2 rfl E1.out G1.out (stI _ _ E1.out G1.out)) ⟨undef, rfl, (by show _ = bif ls 39 then _ else _; rw [h2]; rfl), trivial, fun _ => rfl, rfl⟩)
    · obtain rfl := Option.some.inj ho
      exact wpOpIn_of rfl rfl (wpW_val (r_idx (.tmp 200) (.tmp 201) _ _ rfl (hpre ⟨14, .data⟩ (by simp) rfl).2 (hpre ⟨15, .data⟩ (by simp) rfl).2 (idx_sl Tryz.underlying25 size3 bi n ci pq hpn _)) ⟨_, rfl, hS2, trivial, (fun h => by simp at h), rfl⟩)
    · obtain rfl := Option.some.inj ho
      have h1 : ls 37 = true := (hpre ⟨37, .chain⟩ (by simp) rfl).1
      rw [hls, h1] at hS2
      change w2 = (w.drew.setCell ⟨bi, t, none⟩ (.int .i64 y)) at hS2
      subst hS2
      exact wpOpIn_of rfl rfl (wpW_skip (r_store1 3 (.tmp 223) (.tmp 221) _ _ _ rfl (hpre ⟨38, .data⟩ (by simp) rfl).2 (hpre ⟨35, .data⟩ (by simp) rfl).2 rfl E2.out G2.out (stI _ _ E2.out G2.out)) ⟨undef, rfl, rfl, trivial, fun _ => rfl, rfl⟩)
  · intro ls a w2 hall hS2 hP hsl
    have h2 : ls 39 = true := hall 39 (by decide)
    rw [h2] at hS2
    obtain ⟨us, hus, hfr⟩ := hP.frame 224 rfl
    clear hsl hP hall h2 hus
    subst hfr
    subst hS2
    dsimp only
    simp only [List.range, List.range.loop, List.map_cons, List.map_nil, List.any_cons, List.any_nil, Nat.reduceAdd, Nat.reduceBEq, Nat.reduceLT, Nat.reduceEqDiff, Option.some_beq_some, Bool.or_false, if_true, if_false, List.getD_cons_zero, List.getD_cons_succ, cond_true]
    exact hend (us 186) (us 187) (us 188) (us 189) (us 190) (us 191) (us 192) (us 193) (us 194) (us 195) (us 196) (us 197) (us 198) (us 199) (us 200) (us 201) (us 202) (us 203) (us 204) (us 205) (us 206) (us 207) (us 208) (us 209) (us 210) (us 211) (us 212) (us 213) (us 214) (us 215) (us 216) (us 217) (us 218) (us 219) (us 220) (us 221) (us 222) (us 223)
end Go.Proofs
