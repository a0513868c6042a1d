/-
  The types of the translation, as the symbolic runs read them.
-/
import Derived.Test.YtdlcjmonnfjklaaProg
import Derived.Test.YtdlcjmonnfjklaaSxE
set_option linter.unusedSimpArgs false
set_option linter.unusedVariables false
namespace Go.Proofs.Ytdlcjmonnfjklaa
noncomputable def Try.ty2 : Go.Sx.TI := ⟨false, 1, 8, (Go.Sx.rep 1 (.int .i64 0) ([])), .ik .i64⟩
noncomputable def Try.ty3 : Go.Sx.TI := ⟨false, 1, 8, (Go.Sx.rep 1 (.int .i64 0) ([])), .ik .i64⟩
noncomputable def Try.ty4 : Go.Sx.TI := ⟨false, 1, 1, (Go.Sx.rep 1 (.bool false) ([])), .bl⟩
noncomputable def Try.ty5 : Go.Sx.TI := ⟨false, 1, 1, (Go.Sx.rep 1 (.int .u8 0) ([])), .ik .u8⟩
noncomputable def Try.ty6 : Go.Sx.TI := ⟨false, 1, 1, (Go.Sx.rep 1 (.int .u8 0) ([])), .ik .u8⟩
noncomputable def Try.ty7 : Go.Sx.TI := ⟨true, 4, 24, (Go.Sx.rep 2 (.int .i64 0) (Go.Sx.rep 1 (.bool false) (Go.Sx.rep 1 (.int .u8 0) ([])))), .st [(0, 2), (1, 3), (2, 4), (3, 6)]⟩
noncomputable def Try.ty8 : Go.Sx.TI := ⟨true, 4, 24, (Go.Sx.rep 2 (.int .i64 0) (Go.Sx.rep 1 (.bool false) (Go.Sx.rep 1 (.int .u8 0) ([])))), .st [(0, 2), (1, 3), (2, 4), (3, 6)]⟩
noncomputable def Try.ty9 : Go.Sx.TI := ⟨false, 1, 16, (Go.Sx.rep 1 (.string ⟨#[]⟩) ([])), .str⟩
noncomputable def Try.ty10 : Go.Sx.TI := ⟨false, 1, 16, (Go.Sx.rep 1 (.string ⟨#[]⟩) ([])), .str⟩
noncomputable def Try.ty11 : Go.Sx.TI := ⟨false, 1, 16, (Go.Sx.rep 1 (.string ⟨#[]⟩) ([])), .str⟩
noncomputable def Try.ty12 : Go.Sx.TI := ⟨false, 1, 8, (Go.Sx.rep 1 (.int .u64 0) ([])), .ik .u64⟩
noncomputable def Try.ty13 : Go.Sx.TI := ⟨true, 2, 24, (Go.Sx.rep 1 (.string ⟨#[]⟩) (Go.Sx.rep 1 (.int .u64 0) ([]))), .st [(0, 9), (1, 12)]⟩
noncomputable def Try.ty14 : Go.Sx.TI := ⟨true, 2, 24, (Go.Sx.rep 1 (.string ⟨#[]⟩) (Go.Sx.rep 1 (.int .u64 0) ([]))), .st [(0, 9), (1, 12)]⟩
noncomputable def Try.ty15 : Go.Sx.TI := ⟨false, 1, 8, (Go.Sx.rep 1 (.pointer none) ([])), .ptr 129⟩
noncomputable def Try.ty16 : Go.Sx.TI := ⟨false, 1, 8, (Go.Sx.rep 1 (.pointer none) ([])), .ptr 132⟩
noncomputable def Try.ty17 : Go.Sx.TI := ⟨false, 1, 8, (Go.Sx.rep 1 (.pointer none) ([])), .ptr 142⟩
noncomputable def Try.ty18 : Go.Sx.TI := ⟨true, 1, 8, (Go.Sx.rep 1 (.pointer none) ([])), .st [(0, 17)]⟩
noncomputable def Try.ty19 : Go.Sx.TI := ⟨true, 1, 8, (Go.Sx.rep 1 (.pointer none) ([])), .st [(0, 17)]⟩
noncomputable def Try.ty21 : Go.Sx.TI := ⟨false, 1, 4, (Go.Sx.rep 1 (.int .i32 0) ([])), .ik .i32⟩
noncomputable def Try.ty22 : Go.Sx.TI := ⟨false, 1, 4, (Go.Sx.rep 1 (.float .f32 0) ([])), .fk .f32⟩
noncomputable def Try.ty23 : Go.Sx.TI := ⟨true, 3, 12, (Go.Sx.rep 3 (.float .f32 0) ([])), .arr 3 22⟩
noncomputable def Try.ty24 : Go.Sx.TI := ⟨true, 24, 96, (Go.Sx.rep 24 (.float .f32 0) ([])), .arr 8 23⟩
noncomputable def Try.ty25 : Go.Sx.TI := ⟨true, 3, 12, (Go.Sx.rep 3 (.float .f32 0) ([])), .arr 3 22⟩
noncomputable def Try.ty28 : Go.Sx.TI := ⟨true, 3, 12, (Go.Sx.rep 3 (.float .f32 0) ([])), .arr 3 22⟩
noncomputable def Try.ty29 : Go.Sx.TI := ⟨true, 24, 96, (Go.Sx.rep 24 (.float .f32 0) ([])), .arr 8 28⟩
noncomputable def Try.ty30 : Go.Sx.TI := ⟨true, 24, 96, (Go.Sx.rep 24 (.float .f32 0) ([])), .arr 8 28⟩
noncomputable def Try.ty35 : Go.Sx.TI := ⟨false, 1, 8, (Go.Sx.rep 1 (.float .f64 0) ([])), .fk .f64⟩
noncomputable def Try.ty37 : Go.Sx.TI := ⟨false, 1, 1, (Go.Sx.rep 1 (.int .i8 0) ([])), .ik .i8⟩
noncomputable def Try.ty38 : Go.Sx.TI := ⟨true, 8, 32, (Go.Sx.rep 8 (.float .f32 0) ([])), .arr 8 22⟩
noncomputable def Try.ty39 : Go.Sx.TI := ⟨true, 12, 48, (Go.Sx.rep 12 (.float .f32 0) ([])), .arr 12 22⟩
noncomputable def Try.ty40 : Go.Sx.TI := ⟨true, 15, 60, (Go.Sx.rep 1 (.int .i8 0) (Go.Sx.rep 14 (.float .f32 0) ([]))), .st [(0, 37), (1, 22), (2, 22), (3, 39)]⟩
noncomputable def Try.ty41 : Go.Sx.TI := ⟨true, 15, 60, (Go.Sx.rep 1 (.int .i8 0) (Go.Sx.rep 14 (.float .f32 0) ([]))), .st [(0, 37), (1, 22), (2, 22), (3, 39)]⟩
noncomputable def Try.ty42 : Go.Sx.TI := ⟨true, 120, 480, (Go.Sx.rep 1 (.int .i8 0) (Go.Sx.rep 14 (.float .f32 0) (Go.Sx.rep 1 (.int .i8 0) (Go.Sx.rep 14 (.float .f32 0) (Go.Sx.rep 1 (.int .i8 0) (Go.Sx.rep 14 (.float .f32 0) (Go.Sx.rep 1 (.int .i8 0) (Go.Sx.rep 14 (.float .f32 0) (Go.Sx.rep 1 (.int .i8 0) (Go.Sx.rep 14 (.float .f32 0) (Go.Sx.rep 1 (.int .i8 0) (Go.Sx.rep 14 (.float .f32 0) (Go.Sx.rep 1 (.int .i8 0) (Go.Sx.rep 14 (.float .f32 0) (Go.Sx.rep 1 (.int .i8 0) (Go.Sx.rep 14 (.float .f32 0) ([]))))))))))))))))), .arr 8 41⟩
noncomputable def Try.ty43 : Go.Sx.TI := ⟨true, 129, 516, (Go.Sx.rep 1 (.int .i8 0) (Go.Sx.rep 8 (.float .f32 0) (Go.Sx.rep 1 (.int .i8 0) (Go.Sx.rep 14 (.float .f32 0) (Go.Sx.rep 1 (.int .i8 0) (Go.Sx.rep 14 (.float .f32 0) (Go.Sx.rep 1 (.int .i8 0) (Go.Sx.rep 14 (.float .f32 0) (Go.Sx.rep 1 (.int .i8 0) (Go.Sx.rep 14 (.float .f32 0) (Go.Sx.rep 1 (.int .i8 0) (Go.Sx.rep 14 (.float .f32 0) (Go.Sx.rep 1 (.int .i8 0) (Go.Sx.rep 14 (.float .f32 0) (Go.Sx.rep 1 (.int .i8 0) (Go.Sx.rep 14 (.float .f32 0) (Go.Sx.rep 1 (.int .i8 0) (Go.Sx.rep 14 (.float .f32 0) ([]))))))))))))))))))), .st [(0, 37), (1, 38), (9, 42)]⟩
noncomputable def Try.ty44 : Go.Sx.TI := ⟨true, 129, 516, (Go.Sx.rep 1 (.int .i8 0) (Go.Sx.rep 8 (.float .f32 0) (Go.Sx.rep 1 (.int .i8 0) (Go.Sx.rep 14 (.float .f32 0) (Go.Sx.rep 1 (.int .i8 0) (Go.Sx.rep 14 (.float .f32 0) (Go.Sx.rep 1 (.int .i8 0) (Go.Sx.rep 14 (.float .f32 0) (Go.Sx.rep 1 (.int .i8 0) (Go.Sx.rep 14 (.float .f32 0) (Go.Sx.rep 1 (.int .i8 0) (Go.Sx.rep 14 (.float .f32 0) (Go.Sx.rep 1 (.int .i8 0) (Go.Sx.rep 14 (.float .f32 0) (Go.Sx.rep 1 (.int .i8 0) (Go.Sx.rep 14 (.float .f32 0) (Go.Sx.rep 1 (.int .i8 0) (Go.Sx.rep 14 (.float .f32 0) ([]))))))))))))))))))), .st [(0, 37), (1, 38), (9, 42)]⟩
noncomputable def Try.ty45 : Go.Sx.TI := ⟨false, 1, 2, (Go.Sx.rep 1 (.int .i16 0) ([])), .ik .i16⟩
noncomputable def Try.ty46 : Go.Sx.TI := ⟨true, 19, 76, (Go.Sx.rep 18 (.float .f32 0) (Go.Sx.rep 1 (.int .i16 0) ([]))), .st [(0, 38), (8, 38), (16, 22), (17, 22), (18, 45)]⟩
noncomputable def Try.ty47 : Go.Sx.TI := ⟨true, 19, 76, (Go.Sx.rep 18 (.float .f32 0) (Go.Sx.rep 1 (.int .i16 0) ([]))), .st [(0, 38), (8, 38), (16, 22), (17, 22), (18, 45)]⟩
noncomputable def Try.ty48 : Go.Sx.TI := ⟨true, 8, 32, (Go.Sx.rep 8 (.float .f32 0) ([])), .arr 8 22⟩
noncomputable def Try.ty51 : Go.Sx.TI := ⟨true, 15, 60, (Go.Sx.rep 1 (.int .i8 0) (Go.Sx.rep 14 (.float .f32 0) ([]))), .st [(0, 37), (1, 22), (2, 22), (3, 39)]⟩
noncomputable def Try.ty52 : Go.Sx.TI := ⟨true, 120, 480, (Go.Sx.rep 1 (.int .i8 0) (Go.Sx.rep 14 (.float .f32 0) (Go.Sx.rep 1 (.int .i8 0) (Go.Sx.rep 14 (.float .f32 0) (Go.Sx.rep 1 (.int .i8 0) (Go.Sx.rep 14 (.float .f32 0) (Go.Sx.rep 1 (.int .i8 0) (Go.Sx.rep 14 (.float .f32 0) (Go.Sx.rep 1 (.int .i8 0) (Go.Sx.rep 14 (.float .f32 0) (Go.Sx.rep 1 (.int .i8 0) (Go.Sx.rep 14 (.float .f32 0) (Go.Sx.rep 1 (.int .i8 0) (Go.Sx.rep 14 (.float .f32 0) (Go.Sx.rep 1 (.int .i8 0) (Go.Sx.rep 14 (.float .f32 0) ([]))))))))))))))))), .arr 8 51⟩
noncomputable def Try.ty53 : Go.Sx.TI := ⟨true, 129, 516, (Go.Sx.rep 1 (.int .i8 0) (Go.Sx.rep 8 (.float .f32 0) (Go.Sx.rep 1 (.int .i8 0) (Go.Sx.rep 14 (.float .f32 0) (Go.Sx.rep 1 (.int .i8 0) (Go.Sx.rep 14 (.float .f32 0) (Go.Sx.rep 1 (.int .i8 0) (Go.Sx.rep 14 (.float .f32 0) (Go.Sx.rep 1 (.int .i8 0) (Go.Sx.rep 14 (.float .f32 0) (Go.Sx.rep 1 (.int .i8 0) (Go.Sx.rep 14 (.float .f32 0) (Go.Sx.rep 1 (.int .i8 0) (Go.Sx.rep 14 (.float .f32 0) (Go.Sx.rep 1 (.int .i8 0) (Go.Sx.rep 14 (.float .f32 0) (Go.Sx.rep 1 (.int .i8 0) (Go.Sx.rep 14 (.float .f32 0) ([]))))))))))))))))))), .st [(0, 37), (1, 48), (9, 52)]⟩
noncomputable def Try.ty54 : Go.Sx.TI := ⟨true, 129, 516, (Go.Sx.rep 1 (.int .i8 0) (Go.Sx.rep 8 (.float .f32 0) (Go.Sx.rep 1 (.int .i8 0) (Go.Sx.rep 14 (.float .f32 0) (Go.Sx.rep 1 (.int .i8 0) (Go.Sx.rep 14 (.float .f32 0) (Go.Sx.rep 1 (.int .i8 0) (Go.Sx.rep 14 (.float .f32 0) (Go.Sx.rep 1 (.int .i8 0) (Go.Sx.rep 14 (.float .f32 0) (Go.Sx.rep 1 (.int .i8 0) (Go.Sx.rep 14 (.float .f32 0) (Go.Sx.rep 1 (.int .i8 0) (Go.Sx.rep 14 (.float .f32 0) (Go.Sx.rep 1 (.int .i8 0) (Go.Sx.rep 14 (.float .f32 0) (Go.Sx.rep 1 (.int .i8 0) (Go.Sx.rep 14 (.float .f32 0) ([]))))))))))))))))))), .st [(0, 37), (1, 48), (9, 52)]⟩
noncomputable def Try.ty56 : Go.Sx.TI := ⟨true, 19, 76, (Go.Sx.rep 18 (.float .f32 0) (Go.Sx.rep 1 (.int .i16 0) ([]))), .st [(0, 48), (8, 48), (16, 22), (17, 22), (18, 45)]⟩
noncomputable def Try.ty57 : Go.Sx.TI := ⟨true, 19, 76, (Go.Sx.rep 18 (.float .f32 0) (Go.Sx.rep 1 (.int .i16 0) ([]))), .st [(0, 48), (8, 48), (16, 22), (17, 22), (18, 45)]⟩
noncomputable def Try.ty62 : Go.Sx.TI := ⟨true, 64, 256, (Go.Sx.rep 64 (.float .f32 0) ([])), .arr 64 22⟩
noncomputable def Try.ty63 : Go.Sx.TI := ⟨true, 66, 260, (Go.Sx.rep 2 (.int .i8 0) (Go.Sx.rep 64 (.float .f32 0) ([]))), .st [(0, 37), (1, 37), (2, 62)]⟩
noncomputable def Try.ty64 : Go.Sx.TI := ⟨true, 66, 260, (Go.Sx.rep 2 (.int .i8 0) (Go.Sx.rep 64 (.float .f32 0) ([]))), .st [(0, 37), (1, 37), (2, 62)]⟩
noncomputable def Try.ty67 : Go.Sx.TI := ⟨true, 64, 256, (Go.Sx.rep 64 (.float .f32 0) ([])), .arr 64 22⟩
noncomputable def Try.ty68 : Go.Sx.TI := ⟨true, 66, 260, (Go.Sx.rep 2 (.int .i8 0) (Go.Sx.rep 64 (.float .f32 0) ([]))), .st [(0, 37), (1, 37), (2, 67)]⟩
noncomputable def Try.ty69 : Go.Sx.TI := ⟨true, 66, 260, (Go.Sx.rep 2 (.int .i8 0) (Go.Sx.rep 64 (.float .f32 0) ([]))), .st [(0, 37), (1, 37), (2, 67)]⟩
noncomputable def Try.ty74 : Go.Sx.TI := ⟨false, 1, 8, (Go.Sx.rep 1 (.pointer none) ([])), .ptr 30⟩
noncomputable def Try.ty78 : Go.Sx.TI := ⟨true, 2, 8, (Go.Sx.rep 2 (.float .f32 0) ([])), .arr 2 22⟩
noncomputable def Try.ty84 : Go.Sx.TI := ⟨false, 1, 24, (Go.Sx.rep 1 (.slice none 0 0) ([])), .sl 22⟩
noncomputable def Try.ty86 : Go.Sx.TI := ⟨false, 1, 8, (Go.Sx.rep 1 (.pointer none) ([])), .ptr 54⟩
noncomputable def Try.ty87 : Go.Sx.TI := ⟨false, 1, 8, (Go.Sx.rep 1 (.pointer none) ([])), .ptr 57⟩
noncomputable def Try.ty88 : Go.Sx.TI := ⟨false, 1, 24, (Go.Sx.rep 1 (.slice none 0 0) ([])), .sl 48⟩
noncomputable def Try.ty91 : Go.Sx.TI := ⟨false, 1, 8, (Go.Sx.rep 1 (.pointer none) ([])), .ptr 48⟩
noncomputable def Try.ty96 : Go.Sx.TI := ⟨false, 1, 8, (Go.Sx.rep 1 (.pointer none) ([])), .ptr 69⟩
noncomputable def Try.ty104 : Go.Sx.TI := ⟨false, 1, 24, (Go.Sx.rep 1 (.slice none 0 0) ([])), .sl 28⟩
noncomputable def Try.ty115 : Go.Sx.TI := ⟨false, 1, 8, (Go.Sx.rep 1 (.int .u64 0) ([])), .ik .u64⟩
noncomputable def Try.ty117 : Go.Sx.TI := ⟨false, 1, 8, (Go.Sx.rep 1 (.pointer none) ([])), .ptr 51⟩
noncomputable def Try.ty125 : Go.Sx.TI := ⟨false, 1, 8, (Go.Sx.rep 1 (.int .u64 0) ([])), .ik .u64⟩
noncomputable def Try.ty130 : Go.Sx.TI := ⟨true, 0, 0, ([]), .arr 0 16⟩
noncomputable def Try.ty131 : Go.Sx.TI := ⟨true, 0, 0, ([]), .st [(0, 130)]⟩
noncomputable def Try.ty132 : Go.Sx.TI := ⟨true, 0, 0, ([]), .st [(0, 130)]⟩
noncomputable def Try.ty134 : Go.Sx.TI := ⟨false, 1, 4, (Go.Sx.rep 1 (.int .u32 0) ([])), .ik .u32⟩
noncomputable def Try.ty135 : Go.Sx.TI := ⟨false, 1, 1, (Go.Sx.rep 1 (.int .u8 0) ([])), .ik .u8⟩
noncomputable def Try.ty136 : Go.Sx.TI := ⟨false, 1, 1, (Go.Sx.rep 1 (.int .u8 0) ([])), .ik .u8⟩
noncomputable def Try.ty138 : Go.Sx.TI := ⟨false, 1, 8, (Go.Sx.rep 1 (.pointer none) ([])), .ptr 5⟩
noncomputable def Try.ty139 : Go.Sx.TI := ⟨false, 1, 4, (Go.Sx.rep 1 (.int .i32 0) ([])), .ik .i32⟩
noncomputable def Try.ty140 : Go.Sx.TI := ⟨false, 1, 4, (Go.Sx.rep 1 (.int .i32 0) ([])), .ik .i32⟩
noncomputable def Try.ti : List (Nat × Go.Sx.TI) := [(2, Try.ty2), (3, Try.ty3), (4, Try.ty4), (5, Try.ty5), (6, Try.ty6), (7, Try.ty7), (8, Try.ty8), (9, Try.ty9), (10, Try.ty10), (11, Try.ty11), (12, Try.ty12), (13, Try.ty13), (14, Try.ty14), (15, Try.ty15), (16, Try.ty16), (17, Try.ty17), (18, Try.ty18), (19, Try.ty19), (21, Try.ty21), (22, Try.ty22), (23, Try.ty23), (24, Try.ty24), (25, Try.ty25), (28, Try.ty28), (29, Try.ty29), (30, Try.ty30), (35, Try.ty35), (37, Try.ty37), (38, Try.ty38), (39, Try.ty39), (40, Try.ty40), (41, Try.ty41), (42, Try.ty42), (43, Try.ty43), (44, Try.ty44), (45, Try.ty45), (46, Try.ty46), (47, Try.ty47), (48, Try.ty48), (51, Try.ty51), (52, Try.ty52), (53, Try.ty53), (54, Try.ty54), (56, Try.ty56), (57, Try.ty57), (62, Try.ty62), (63, Try.ty63), (64, Try.ty64), (67, Try.ty67), (68, Try.ty68), (69, Try.ty69), (74, Try.ty74), (78, Try.ty78), (84, Try.ty84), (86, Try.ty86), (87, Try.ty87), (88, Try.ty88), (91, Try.ty91), (96, Try.ty96), (104, Try.ty104), (115, Try.ty115), (117, Try.ty117), (125, Try.ty125), (130, Try.ty130), (131, Try.ty131), (132, Try.ty132), (134, Try.ty134), (135, Try.ty135), (136, Try.ty136), (138, Try.ty138), (139, Try.ty139), (140, Try.ty140)]
end Go.Proofs.Ytdlcjmonnfjklaa
