/- What the machine asks of the types of this program: each fact is closed. -/
import Derived.Test.YtanjlcjpcenejaaProg
import Derived.Test.YtanjlcjpcenejaaW
import Derived.KernelRfl
namespace Go.Proofs.Ytanjlcjpcenejaa
open Go.Mach
theorem aty1 : aTy Try.prog 1 = .one := by kernel_rfl
theorem csz1 : Try.prog.cellsOf 1 = 1 := by kernel_rfl
theorem azero1 : azero Try.prog 1 = some [.nilFunc] := by kernel_rfl
theorem aty2 : aTy Try.prog 2 = .one := by kernel_rfl
theorem csz2 : Try.prog.cellsOf 2 = 1 := by kernel_rfl
theorem azero2 : azero Try.prog 2 = some [.int .i64 0] := by kernel_rfl
theorem aty3 : aTy Try.prog 3 = .one := by kernel_rfl
theorem csz3 : Try.prog.cellsOf 3 = 1 := by kernel_rfl
theorem azero3 : azero Try.prog 3 = some [.int .i64 0] := by kernel_rfl
theorem aty4 : aTy Try.prog 4 = .one := by kernel_rfl
theorem csz4 : Try.prog.cellsOf 4 = 1 := by kernel_rfl
theorem azero4 : azero Try.prog 4 = some [.bool false] := by kernel_rfl
theorem aty5 : aTy Try.prog 5 = .one := by kernel_rfl
theorem csz5 : Try.prog.cellsOf 5 = 1 := by kernel_rfl
theorem azero5 : azero Try.prog 5 = some [.int .u8 0] := by kernel_rfl
theorem aty6 : aTy Try.prog 6 = .one := by kernel_rfl
theorem csz6 : Try.prog.cellsOf 6 = 1 := by kernel_rfl
theorem azero6 : azero Try.prog 6 = some [.int .u8 0] := by kernel_rfl
theorem aty7 : aTy Try.prog 7 = .struct 4 [(0, 1, some false), (1, 1, some false), (2, 1, some false), (3, 1, some false)] := by kernel_rfl
theorem csz7 : Try.prog.cellsOf 7 = 4 := by kernel_rfl
theorem azero7 : azero Try.prog 7 = some [.int .i64 0, .int .i64 0, .bool false, .int .u8 0] := by kernel_rfl
theorem aty8 : aTy Try.prog 8 = .struct 4 [(0, 1, some false), (1, 1, some false), (2, 1, some false), (3, 1, some false)] := by kernel_rfl
theorem csz8 : Try.prog.cellsOf 8 = 4 := by kernel_rfl
theorem azero8 : azero Try.prog 8 = some [.int .i64 0, .int .i64 0, .bool false, .int .u8 0] := by kernel_rfl
theorem aty9 : aTy Try.prog 9 = .str := by kernel_rfl
theorem csz9 : Try.prog.cellsOf 9 = 1 := by kernel_rfl
theorem azero9 : azero Try.prog 9 = some [.string ⟨#[]⟩] := by kernel_rfl
theorem aty10 : aTy Try.prog 10 = .str := by kernel_rfl
theorem csz10 : Try.prog.cellsOf 10 = 1 := by kernel_rfl
theorem azero10 : azero Try.prog 10 = some [.string ⟨#[]⟩] := by kernel_rfl
theorem aty11 : aTy Try.prog 11 = .str := by kernel_rfl
theorem csz11 : Try.prog.cellsOf 11 = 1 := by kernel_rfl
theorem azero11 : azero Try.prog 11 = some [.string ⟨#[]⟩] := by kernel_rfl
theorem aty12 : aTy Try.prog 12 = .one := by kernel_rfl
theorem csz12 : Try.prog.cellsOf 12 = 1 := by kernel_rfl
theorem azero12 : azero Try.prog 12 = some [.int .u64 0] := by kernel_rfl
theorem aty13 : aTy Try.prog 13 = .struct 2 [(0, 1, some false), (1, 1, some false)] := by kernel_rfl
theorem csz13 : Try.prog.cellsOf 13 = 2 := by kernel_rfl
theorem azero13 : azero Try.prog 13 = some [.string ⟨#[]⟩, .int .u64 0] := by kernel_rfl
theorem aty14 : aTy Try.prog 14 = .struct 2 [(0, 1, some false), (1, 1, some false)] := by kernel_rfl
theorem csz14 : Try.prog.cellsOf 14 = 2 := by kernel_rfl
theorem azero14 : azero Try.prog 14 = some [.string ⟨#[]⟩, .int .u64 0] := by kernel_rfl
theorem aty15 : aTy Try.prog 15 = .one := by kernel_rfl
theorem csz15 : Try.prog.cellsOf 15 = 1 := by kernel_rfl
theorem azero15 : azero Try.prog 15 = some [.pointer none] := by kernel_rfl
theorem aty16 : aTy Try.prog 16 = .one := by kernel_rfl
theorem csz16 : Try.prog.cellsOf 16 = 1 := by kernel_rfl
theorem azero16 : azero Try.prog 16 = some [.pointer none] := by kernel_rfl
theorem aty17 : aTy Try.prog 17 = .one := by kernel_rfl
theorem csz17 : Try.prog.cellsOf 17 = 1 := by kernel_rfl
theorem azero17 : azero Try.prog 17 = some [.pointer none] := by kernel_rfl
theorem aty18 : aTy Try.prog 18 = .struct 1 [(0, 1, some false)] := by kernel_rfl
theorem csz18 : Try.prog.cellsOf 18 = 1 := by kernel_rfl
theorem azero18 : azero Try.prog 18 = some [.pointer none] := by kernel_rfl
theorem aty19 : aTy Try.prog 19 = .struct 1 [(0, 1, some false)] := by kernel_rfl
theorem csz19 : Try.prog.cellsOf 19 = 1 := by kernel_rfl
theorem azero19 : azero Try.prog 19 = some [.pointer none] := by kernel_rfl
theorem aty21 : aTy Try.prog 21 = .one := by kernel_rfl
theorem csz21 : Try.prog.cellsOf 21 = 1 := by kernel_rfl
theorem azero21 : azero Try.prog 21 = some [.int .i32 0] := by kernel_rfl
theorem aty22 : aTy Try.prog 22 = .slice 37 1 1 := by kernel_rfl
theorem csz22 : Try.prog.cellsOf 22 = 1 := by kernel_rfl
theorem azero22 : azero Try.prog 22 = some [.slice none 0 0] := by kernel_rfl
theorem aty23 : aTy Try.prog 23 = .one := by kernel_rfl
theorem csz23 : Try.prog.cellsOf 23 = 1 := by kernel_rfl
theorem azero23 : azero Try.prog 23 = some [.int .u64 0] := by kernel_rfl
theorem aty24 : aTy Try.prog 24 = .slice 3 1 8 := by kernel_rfl
theorem csz24 : Try.prog.cellsOf 24 = 1 := by kernel_rfl
theorem azero24 : azero Try.prog 24 = some [.slice none 0 0] := by kernel_rfl
theorem aty25 : aTy Try.prog 25 = .struct 3 [(0, 1, some false), (1, 1, some false), (2, 1, some false)] := by kernel_rfl
theorem csz25 : Try.prog.cellsOf 25 = 3 := by kernel_rfl
theorem azero25 : azero Try.prog 25 = some [.slice none 0 0, .int .i64 0, .slice none 0 0] := by kernel_rfl
theorem aty26 : aTy Try.prog 26 = .struct 3 [(0, 1, some false), (1, 1, some false), (2, 1, some false)] := by kernel_rfl
theorem csz26 : Try.prog.cellsOf 26 = 3 := by kernel_rfl
theorem azero26 : azero Try.prog 26 = some [.slice none 0 0, .int .i64 0, .slice none 0 0] := by kernel_rfl
theorem aty27 : aTy Try.prog 27 = .one := by kernel_rfl
theorem csz27 : Try.prog.cellsOf 27 = 1 := by kernel_rfl
theorem azero27 : azero Try.prog 27 = some [.nilFunc] := by kernel_rfl
theorem aty28 : aTy Try.prog 28 = .one := by kernel_rfl
theorem csz28 : Try.prog.cellsOf 28 = 1 := by kernel_rfl
theorem azero28 : azero Try.prog 28 = some [.nilFunc] := by kernel_rfl
theorem aty29 : aTy Try.prog 29 = .slice 21 1 4 := by kernel_rfl
theorem csz29 : Try.prog.cellsOf 29 = 1 := by kernel_rfl
theorem azero29 : azero Try.prog 29 = some [.slice none 0 0] := by kernel_rfl
theorem aty30 : aTy Try.prog 30 = .struct 3 [(0, 1, some false), (1, 1, some false), (2, 1, some false)] := by kernel_rfl
theorem csz30 : Try.prog.cellsOf 30 = 3 := by kernel_rfl
theorem azero30 : azero Try.prog 30 = some [.slice none 0 0, .int .i64 0, .slice none 0 0] := by kernel_rfl
theorem aty31 : aTy Try.prog 31 = .struct 3 [(0, 1, some false), (1, 1, some false), (2, 1, some false)] := by kernel_rfl
theorem csz31 : Try.prog.cellsOf 31 = 3 := by kernel_rfl
theorem azero31 : azero Try.prog 31 = some [.slice none 0 0, .int .i64 0, .slice none 0 0] := by kernel_rfl
theorem aty32 : aTy Try.prog 32 = .one := by kernel_rfl
theorem csz32 : Try.prog.cellsOf 32 = 1 := by kernel_rfl
theorem azero32 : azero Try.prog 32 = some [.int .i64 0] := by kernel_rfl
theorem aty34 : aTy Try.prog 34 = .one := by kernel_rfl
theorem csz34 : Try.prog.cellsOf 34 = 1 := by kernel_rfl
theorem azero34 : azero Try.prog 34 = some [.nilFunc] := by kernel_rfl
theorem aty35 : aTy Try.prog 35 = .one := by kernel_rfl
theorem csz35 : Try.prog.cellsOf 35 = 1 := by kernel_rfl
theorem azero35 : azero Try.prog 35 = some [.nilFunc] := by kernel_rfl
theorem aty36 : aTy Try.prog 36 = .one := by kernel_rfl
theorem csz36 : Try.prog.cellsOf 36 = 1 := by kernel_rfl
theorem azero36 : azero Try.prog 36 = some [.nilFunc] := by kernel_rfl
theorem aty37 : aTy Try.prog 37 = .one := by kernel_rfl
theorem csz37 : Try.prog.cellsOf 37 = 1 := by kernel_rfl
theorem azero37 : azero Try.prog 37 = some [.int .i8 0] := by kernel_rfl
theorem aty38 : aTy Try.prog 38 = .one := by kernel_rfl
theorem csz38 : Try.prog.cellsOf 38 = 1 := by kernel_rfl
theorem azero38 : azero Try.prog 38 = some [.nilFunc] := by kernel_rfl
theorem aty39 : aTy Try.prog 39 = .one := by kernel_rfl
theorem csz39 : Try.prog.cellsOf 39 = 1 := by kernel_rfl
theorem azero39 : azero Try.prog 39 = some [.nilFunc] := by kernel_rfl
theorem aty40 : aTy Try.prog 40 = .one := by kernel_rfl
theorem csz40 : Try.prog.cellsOf 40 = 1 := by kernel_rfl
theorem azero40 : azero Try.prog 40 = some [.nilFunc] := by kernel_rfl
theorem aty41 : aTy Try.prog 41 = .one := by kernel_rfl
theorem csz41 : Try.prog.cellsOf 41 = 1 := by kernel_rfl
theorem azero41 : azero Try.prog 41 = some [.nilFunc] := by kernel_rfl
theorem aty42 : aTy Try.prog 42 = .one := by kernel_rfl
theorem csz42 : Try.prog.cellsOf 42 = 1 := by kernel_rfl
theorem azero42 : azero Try.prog 42 = some [.nilFunc] := by kernel_rfl
theorem aty43 : aTy Try.prog 43 = .one := by kernel_rfl
theorem csz43 : Try.prog.cellsOf 43 = 1 := by kernel_rfl
theorem azero43 : azero Try.prog 43 = some [.nilFunc] := by kernel_rfl
theorem aty44 : aTy Try.prog 44 = .one := by kernel_rfl
theorem csz44 : Try.prog.cellsOf 44 = 1 := by kernel_rfl
theorem azero44 : azero Try.prog 44 = some [.nilFunc] := by kernel_rfl
theorem aty45 : aTy Try.prog 45 = .one := by kernel_rfl
theorem csz45 : Try.prog.cellsOf 45 = 1 := by kernel_rfl
theorem azero45 : azero Try.prog 45 = some [.nilFunc] := by kernel_rfl
theorem aty46 : aTy Try.prog 46 = .one := by kernel_rfl
theorem csz46 : Try.prog.cellsOf 46 = 1 := by kernel_rfl
theorem azero46 : azero Try.prog 46 = some [.nilFunc] := by kernel_rfl
theorem aty47 : aTy Try.prog 47 = .one := by kernel_rfl
theorem csz47 : Try.prog.cellsOf 47 = 1 := by kernel_rfl
theorem azero47 : azero Try.prog 47 = some [.nilFunc] := by kernel_rfl
theorem aty48 : aTy Try.prog 48 = .one := by kernel_rfl
theorem csz48 : Try.prog.cellsOf 48 = 1 := by kernel_rfl
theorem azero48 : azero Try.prog 48 = some [.nilFunc] := by kernel_rfl
theorem aty49 : aTy Try.prog 49 = .one := by kernel_rfl
theorem csz49 : Try.prog.cellsOf 49 = 1 := by kernel_rfl
theorem azero49 : azero Try.prog 49 = some [.nilFunc] := by kernel_rfl
theorem aty50 : aTy Try.prog 50 = .one := by kernel_rfl
theorem csz50 : Try.prog.cellsOf 50 = 1 := by kernel_rfl
theorem azero50 : azero Try.prog 50 = some [.nilFunc] := by kernel_rfl
theorem aty51 : aTy Try.prog 51 = .one := by kernel_rfl
theorem csz51 : Try.prog.cellsOf 51 = 1 := by kernel_rfl
theorem azero51 : azero Try.prog 51 = some [.nilFunc] := by kernel_rfl
theorem aty52 : aTy Try.prog 52 = .one := by kernel_rfl
theorem csz52 : Try.prog.cellsOf 52 = 1 := by kernel_rfl
theorem azero52 : azero Try.prog 52 = some [.nilFunc] := by kernel_rfl
theorem aty53 : aTy Try.prog 53 = .slice 26 3 56 := by kernel_rfl
theorem csz53 : Try.prog.cellsOf 53 = 1 := by kernel_rfl
theorem azero53 : azero Try.prog 53 = some [.slice none 0 0] := by kernel_rfl
theorem aty54 : aTy Try.prog 54 = .one := by kernel_rfl
theorem csz54 : Try.prog.cellsOf 54 = 1 := by kernel_rfl
theorem azero54 : azero Try.prog 54 = some [.nilFunc] := by kernel_rfl
theorem aty55 : aTy Try.prog 55 = .one := by kernel_rfl
theorem csz55 : Try.prog.cellsOf 55 = 1 := by kernel_rfl
theorem azero55 : azero Try.prog 55 = some [.nilFunc] := by kernel_rfl
theorem aty56 : aTy Try.prog 56 = .one := by kernel_rfl
theorem csz56 : Try.prog.cellsOf 56 = 1 := by kernel_rfl
theorem azero56 : azero Try.prog 56 = some [.int .u64 0] := by kernel_rfl
theorem aty57 : aTy Try.prog 57 = .one := by kernel_rfl
theorem csz57 : Try.prog.cellsOf 57 = 1 := by kernel_rfl
theorem azero57 : azero Try.prog 57 = some [.nilFunc] := by kernel_rfl
theorem aty58 : aTy Try.prog 58 = .one := by kernel_rfl
theorem csz58 : Try.prog.cellsOf 58 = 1 := by kernel_rfl
theorem azero58 : azero Try.prog 58 = some [.nilFunc] := by kernel_rfl
theorem aty59 : aTy Try.prog 59 = .one := by kernel_rfl
theorem csz59 : Try.prog.cellsOf 59 = 1 := by kernel_rfl
theorem azero59 : azero Try.prog 59 = some [.nilFunc] := by kernel_rfl
theorem aty60 : aTy Try.prog 60 = .one := by kernel_rfl
theorem csz60 : Try.prog.cellsOf 60 = 1 := by kernel_rfl
theorem azero60 : azero Try.prog 60 = some [.nilFunc] := by kernel_rfl
theorem aty61 : aTy Try.prog 61 = .one := by kernel_rfl
theorem csz61 : Try.prog.cellsOf 61 = 1 := by kernel_rfl
theorem azero61 : azero Try.prog 61 = some [.nilFunc] := by kernel_rfl
theorem aty62 : aTy Try.prog 62 = .one := by kernel_rfl
theorem csz62 : Try.prog.cellsOf 62 = 1 := by kernel_rfl
theorem azero62 : azero Try.prog 62 = some [.nilFunc] := by kernel_rfl
theorem aty63 : aTy Try.prog 63 = .one := by kernel_rfl
theorem csz63 : Try.prog.cellsOf 63 = 1 := by kernel_rfl
theorem azero63 : azero Try.prog 63 = some [.nilFunc] := by kernel_rfl
theorem aty64 : aTy Try.prog 64 = .one := by kernel_rfl
theorem csz64 : Try.prog.cellsOf 64 = 1 := by kernel_rfl
theorem azero64 : azero Try.prog 64 = some [.nilFunc] := by kernel_rfl
theorem aty66 : aTy Try.prog 66 = .one := by kernel_rfl
theorem csz66 : Try.prog.cellsOf 66 = 1 := by kernel_rfl
theorem azero66 : azero Try.prog 66 = some [.nilFunc] := by kernel_rfl
theorem aty67 : aTy Try.prog 67 = .one := by kernel_rfl
theorem csz67 : Try.prog.cellsOf 67 = 1 := by kernel_rfl
theorem azero67 : azero Try.prog 67 = some [.nilFunc] := by kernel_rfl
theorem aty68 : aTy Try.prog 68 = .one := by kernel_rfl
theorem csz68 : Try.prog.cellsOf 68 = 1 := by kernel_rfl
theorem azero68 : azero Try.prog 68 = some [.nilFunc] := by kernel_rfl
theorem aty69 : aTy Try.prog 69 = .struct 4 [(0, 1, some false), (1, 1, some false), (2, 1, some false), (3, 1, some false)] := by kernel_rfl
theorem csz69 : Try.prog.cellsOf 69 = 4 := by kernel_rfl
theorem azero69 : azero Try.prog 69 = some [.pointer none, .pointer none, .pointer none, .string ⟨#[]⟩] := by kernel_rfl
theorem aty70 : aTy Try.prog 70 = .struct 4 [(0, 1, some false), (1, 1, some false), (2, 1, some false), (3, 1, some false)] := by kernel_rfl
theorem csz70 : Try.prog.cellsOf 70 = 4 := by kernel_rfl
theorem azero70 : azero Try.prog 70 = some [.pointer none, .pointer none, .pointer none, .string ⟨#[]⟩] := by kernel_rfl
theorem aty71 : aTy Try.prog 71 = .array 0 16 1 0 := by kernel_rfl
theorem csz71 : Try.prog.cellsOf 71 = 0 := by kernel_rfl
theorem azero71 : azero Try.prog 71 = some [] := by kernel_rfl
theorem aty72 : aTy Try.prog 72 = .struct 0 [(0, 0, some true)] := by kernel_rfl
theorem csz72 : Try.prog.cellsOf 72 = 0 := by kernel_rfl
theorem azero72 : azero Try.prog 72 = some [] := by kernel_rfl
theorem aty73 : aTy Try.prog 73 = .struct 0 [(0, 0, some true)] := by kernel_rfl
theorem csz73 : Try.prog.cellsOf 73 = 0 := by kernel_rfl
theorem azero73 : azero Try.prog 73 = some [] := by kernel_rfl
theorem aty74 : aTy Try.prog 74 = .one := by kernel_rfl
theorem csz74 : Try.prog.cellsOf 74 = 1 := by kernel_rfl
theorem azero74 : azero Try.prog 74 = some [.nilFunc] := by kernel_rfl
theorem aty75 : aTy Try.prog 75 = .one := by kernel_rfl
theorem csz75 : Try.prog.cellsOf 75 = 1 := by kernel_rfl
theorem azero75 : azero Try.prog 75 = some [.int .u32 0] := by kernel_rfl
theorem aty76 : aTy Try.prog 76 = .one := by kernel_rfl
theorem csz76 : Try.prog.cellsOf 76 = 1 := by kernel_rfl
theorem azero76 : azero Try.prog 76 = some [.int .u8 0] := by kernel_rfl
theorem aty77 : aTy Try.prog 77 = .one := by kernel_rfl
theorem csz77 : Try.prog.cellsOf 77 = 1 := by kernel_rfl
theorem azero77 : azero Try.prog 77 = some [.int .u8 0] := by kernel_rfl
theorem aty78 : aTy Try.prog 78 = .one := by kernel_rfl
theorem csz78 : Try.prog.cellsOf 78 = 1 := by kernel_rfl
theorem azero78 : azero Try.prog 78 = some [.nilFunc] := by kernel_rfl
theorem aty79 : aTy Try.prog 79 = .one := by kernel_rfl
theorem csz79 : Try.prog.cellsOf 79 = 1 := by kernel_rfl
theorem azero79 : azero Try.prog 79 = some [.pointer none] := by kernel_rfl
theorem aty80 : aTy Try.prog 80 = .one := by kernel_rfl
theorem csz80 : Try.prog.cellsOf 80 = 1 := by kernel_rfl
theorem azero80 : azero Try.prog 80 = some [.int .i32 0] := by kernel_rfl
theorem aty81 : aTy Try.prog 81 = .one := by kernel_rfl
theorem csz81 : Try.prog.cellsOf 81 = 1 := by kernel_rfl
theorem azero81 : azero Try.prog 81 = some [.int .i32 0] := by kernel_rfl
theorem aty82 : aTy Try.prog 82 = .struct 11 [(0, 1, some false), (1, 1, some false), (2, 1, some false), (3, 1, some false), (4, 1, some false), (5, 1, some false), (6, 1, some false), (7, 1, some false), (8, 1, some false), (9, 1, some false), (10, 1, some false)] := by kernel_rfl
theorem csz82 : Try.prog.cellsOf 82 = 11 := by kernel_rfl
theorem azero82 : azero Try.prog 82 = some [.int .u64 0, .int .u64 0, .int .u32 0, .int .u8 0, .int .u8 0, .int .u8 0, .int .u8 0, .nilFunc, .pointer none, .int .i32 0, .int .i32 0] := by kernel_rfl
theorem aty83 : aTy Try.prog 83 = .struct 11 [(0, 1, some false), (1, 1, some false), (2, 1, some false), (3, 1, some false), (4, 1, some false), (5, 1, some false), (6, 1, some false), (7, 1, some false), (8, 1, some false), (9, 1, some false), (10, 1, some false)] := by kernel_rfl
theorem csz83 : Try.prog.cellsOf 83 = 11 := by kernel_rfl
theorem azero83 : azero Try.prog 83 = some [.int .u64 0, .int .u64 0, .int .u32 0, .int .u8 0, .int .u8 0, .int .u8 0, .int .u8 0, .nilFunc, .pointer none, .int .i32 0, .int .i32 0] := by kernel_rfl
theorem aty84 : aTy Try.prog 84 = .one := by kernel_rfl
theorem csz84 : Try.prog.cellsOf 84 = 1 := by kernel_rfl
theorem azero84 : azero Try.prog 84 = some [.pointer none] := by kernel_rfl
end Go.Proofs.Ytanjlcjpcenejaa
