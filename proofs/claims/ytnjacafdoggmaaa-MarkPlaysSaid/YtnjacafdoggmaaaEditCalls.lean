/-
  Edits: what each function of the code does (bytes, places).
-/
import Derived.Test.YtnjacafdoggmaaaBytes
import Derived.Test.YtnjacafdoggmaaaEditPlace
