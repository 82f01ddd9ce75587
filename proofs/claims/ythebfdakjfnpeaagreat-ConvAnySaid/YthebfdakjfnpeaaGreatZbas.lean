/- What the law ConvAny of layer 17 comes to, part 19. Conditions: none. -/
import Derived.Test.YthebfdakjfnpeaaGreatZbar
section

end
